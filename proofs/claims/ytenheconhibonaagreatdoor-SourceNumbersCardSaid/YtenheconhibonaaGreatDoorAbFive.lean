/-
  An abstract program logic, contracts of functions, and laws of terms and rules (part 5).
-/
import Derived.Test.YtenheconhibonaaGreatDoorAbFour
import Derived.Test.YtenheconhibonaaGreatDoorAbThree
set_option linter.unusedVariables false
set_option linter.unusedSimpArgs false
set_option maxHeartbeats 4000000
set_option linter.unusedSimpArgs false
set_option linter.unusedVariables false
set_option maxHeartbeats 4000000
set_option maxRecDepth 4000
namespace Go.Proofs.YtenheconhibonaaGreatDoor.Ab
open Go.Proofs
def i64 (n : Int) : Prop := -9223372036854775808 ≤ n ∧ n ≤ 9223372036854775807
mutual
def T.ok : T → Prop
  | .mk k i n l => i64 k ∧ i64 i ∧ n.size ≤ 9223372036854775807 ∧ oks l
def oks : List T → Prop
  | [] => True
  | t :: l => t.ok ∧ oks l
end
theorem T.ok_eq (t : T) : t.ok ↔ i64 t.kind ∧ i64 t.int ∧ t.name.size ≤ 9223372036854775807 ∧ oks t.args := by cases t; simp only [T.ok, T.kind, T.int, T.name, T.args]
theorem QfP : ∀ {l : List T} {k : Nat} (h : k < l.length), oks l → (l[k]).ok
  | t :: l, 0, _, h => h.1
  | t :: l, k + 1, h, ho => QfP (l := l) (by simpa using h) ho.2
theorem Y4 (P : Program) (t : TypeId) (xo yo : Operand) (a : Int) : pv P (do eqGuard .quo t xo yo (.int .i64 a) (.int .i64 8); binOp .quo t (.int .i64 a) (.int .i64 8)) = some (.int .i64 (IntKind.i64.wrap (a.tdiv 8))) := rfl
def weighs (w : List T → Int → Int) : List T → Int → Int
  | [], n => n
  | t :: l, n => if n < 0 then n else weighs w l (w t.args (n - 1 - (t.name.size / 8 : Nat)))
def weigh : Nat → List T → Int → Int
  | 0, _, _ => -1
  | d + 1, l, n => if (l.length : Int) > n then -1 else weighs (weigh d) l n
theorem QbY (w : List T → Int → Int) (hw : ∀ l n, -1 ≤ w l n ∧ (w l n ≤ n ∨ w l n = -1)) : ∀ (l : List T) (n : Int), -1 ≤ n → -1 ≤ weighs w l n ∧ weighs w l n ≤ n
  | [], n, h => ⟨h, Int.le_refl _⟩
  | t :: l, n, h => by
    simp only [weighs]
    split
    · exact ⟨h, Int.le_refl _⟩
    · obtain ⟨h1, h2⟩ := hw t.args (n - 1 - (t.name.size / 8 : Nat))
      obtain ⟨h3, h4⟩ := QbY w hw l _ h1
      refine ⟨h3, ?_⟩
      omega
theorem Zq : ∀ (d : Nat) (l : List T) (n : Int), -1 ≤ weigh d l n ∧ (weigh d l n ≤ n ∨ weigh d l n = -1)
  | 0, l, n => ⟨Int.le_refl _, .inr rfl⟩
  | d + 1, l, n => by
    simp only [weigh]
    split
    · exact ⟨Int.le_refl _, .inr rfl⟩
    · obtain ⟨h1, h2⟩ := QbY (weigh d) (Zq d) l n (by omega)
      exact ⟨h1, .inl h2⟩
theorem Qdk (w : List T → Int → Int) (hb : ∀ l n, -1 ≤ w l n) (hw : ∀ l n, 0 ≤ w l n → (ndsL l : Int) + w l n ≤ n) : ∀ (l : List T) (n : Int), 0 ≤ weighs w l n → (ndsL l : Int) + weighs w l n ≤ n
  | [], n, h => by simp [weighs, ndsL]
  | t :: l, n, h => by
    simp only [weighs] at h ⊢
    split at h
    · omega
    · rename_i hn
      rw [if_neg hn]
      have h1 := Qdk w hb hw l _ h
      have h2 := hw t.args (n - 1 - (t.name.size / 8 : Nat)) (by
        rcases Int.lt_or_le (w t.args (n - 1 - (t.name.size / 8 : Nat))) 0 with h0 | h0
        · exfalso
          have : weighs w l (w t.args (n - 1 - (t.name.size / 8 : Nat))) = w t.args (n - 1 - (t.name.size / 8 : Nat)) := by
            cases l with
            | nil => rfl
            | cons a l => simp only [weighs, if_pos h0]
          omega
        · exact h0)
      have h3 := T.Qj7 t
      simp only [ndsL]
      omega
theorem Qfj : ∀ (d : Nat) (l : List T) (n : Int), 0 ≤ weigh d l n → (ndsL l : Int) + weigh d l n ≤ n
  | 0, l, n, h => by simp only [weigh] at h; omega
  | d + 1, l, n, h => by
    simp only [weigh] at h ⊢
    split at h
    · omega
    · rename_i hn
      rw [if_neg hn]
      exact Qdk (weigh d) (fun l n => (Zq d l n).1) (Qfj d) l n h
theorem QfU (w : List T → Int → Int) {r : List T} {n : Int} (h : n < 0) : weighs w r n = n := by
  cases r with
  | nil => rfl
  | cons a r => simp only [weighs, if_pos h]
theorem QbG : ∀ (d : Nat), d ≤ 64 → ∀ (l : List T) (n : Int), oks l → -2305843009213693952 ≤ n → n ≤ 1000000 → Pure Tryz.prog 52 [.sl 4 (avs l) none, .i n, .i d] (.i (weigh d l n))
  | 0, _, l, n, ho, hn1, hn2 => by
    intro h
    refine Qg Tryz.func52 rfl Tryz.call52 Tryz.ntmps52 (congrArg Array.toList Tryz.results52) (by simp) ?_
    repeat (first | (((with_reducible refine Qa fun K E hK hE => ?_)); simp -implicitDefEqProofs only [Qf, Qb, Qi, OpW, aop, undef, AS.ev, Qc, Qq, Qz, Qm, QC, List.getD_cons_zero, List.getD_cons_succ, Bool.not_true, ↓reduceIte, Nat.reduceLT, Nat.reduceEqDiff, aBin, List.getElem?_cons_zero, List.getElem?_cons_succ, Option.map_some, Option.bind_some, List.getElem?_toArray, QU, beq_self_eq_true, Int.natCast_zero, beq_false]) | (with_reducible (first | refine Qh fun K hK => ?_ | refine Qo ?_ | refine QA ?_)) | ((with_reducible refine hK _ ?_); clear hK) | (refine Qj rfl ?_; simp only [↓reduceIte]))
    simp only [QO, Qp, Qv, upd, ↓reduceIte, Option.some.injEq, exists_eq_left']; first | refine Qd (htake _ _) (.keep (.v _)) ⟨rfl, rfl⟩ | refine Qd List.take_length (.keep (.v _)) ⟨rfl, rfl⟩
  | d + 1, hd, l, n, ho, hn1, hn2 => by
    intro h
    have hd0 : (((d + 1 : Nat) : Int) == 0) = false := by rw [beq_eq_false_iff_ne]; omega
    have hwd : IntKind.i64.wrap (((d + 1 : Nat) : Int) - 1) = (d : Int) := by rw [XZ (by omega)]; omega
    by_cases hc : (l.length : Int) > n
    · refine Qg Tryz.func52 rfl Tryz.call52 Tryz.ntmps52 (congrArg Array.toList Tryz.results52) (by simp) ?_
      repeat (first | (((with_reducible refine Qa fun K E hK hE => ?_)); simp -implicitDefEqProofs only [Qf, Qb, Qi, OpW, aop, undef, AS.ev, Qc, Qq, Qm, QC, List.getD_cons_zero, List.getD_cons_succ, ↓reduceIte, Nat.reduceLT, Nat.reduceEqDiff, aBin, aLen, List.getElem?_cons_zero, List.getElem?_cons_succ, Option.map_some, Option.bind_some, List.getElem?_toArray, QU, Q6, goInt, decide_true, beq_self_eq_true, Bool.false_eq_true, QG, un44, hd0, hc]) | (with_reducible (first | refine Qh fun K hK => ?_ | refine Qo ?_ | refine QA ?_)) | ((with_reducible refine hK _ ?_); clear hK) | (refine Qj rfl ?_; simp only [↓reduceIte]))
      simp only [QO, Qp, Qv, upd, ↓reduceIte, Option.some.injEq, exists_eq_left']; first | refine Qd (htake _ _) (.keep (.v _)) ⟨by simp only [weigh, if_pos hc], rfl⟩ | refine Qd List.take_length (.keep (.v _)) ⟨by simp only [weigh, if_pos hc], rfl⟩
    · have hw : weigh (d + 1) l n = weighs (weigh d) l n := by simp only [weigh, if_neg hc]
      refine Qg Tryz.func52 rfl Tryz.call52 Tryz.ntmps52 (congrArg Array.toList Tryz.results52) (by simp) ?_
      repeat (first | (((with_reducible refine Qa fun K E hK hE => ?_)); simp -implicitDefEqProofs only [Qf, Qb, Qi, OpW, aop, undef, AS.ev, Qc, Qq, Qm, QC, List.getD_cons_zero, List.getD_cons_succ, ↓reduceIte, Nat.reduceLT, Nat.reduceEqDiff, aBin, aLen, List.getElem?_cons_zero, List.getElem?_cons_succ, Option.map_some, Option.bind_some, List.getElem?_toArray, QU, Q6, goInt, decide_false, beq_self_eq_true, Bool.false_eq_true, QG, un44, hd0, hc]) | (with_reducible (first | refine Qh fun K hK => ?_ | refine Qk ?_ | refine Qt ?_ | refine Qe ?_)) | ((with_reducible refine hK _ ?_); clear hK) | (refine Qj rfl ?_; simp only [↓reduceIte, Bool.false_eq_true]))
      obtain ⟨I, hI⟩ : ∃ I : Nat → AS → Prop, I = fun m' s => ∃ (j : Nat) (a : Int), m' = l.length - j ∧ j ≤ l.length ∧ -1 ≤ a ∧ a ≤ n ∧ weighs (weigh d) l n = weighs (weigh d) (l.drop j) a ∧ s.tm 0 = .sl 4 (avs l) none ∧ s.tm 1 = .i a ∧ s.tm 2 = .i ((d + 1 : Nat) : Int) ∧ s.tm 7 = .i j ∧ s.h = h := ⟨_, rfl⟩; refine Q4 I ?_ (m := l.length) ?_
      · intro m' s hs; rw [hI] at hs; obtain ⟨tm, hp⟩ := s; dsimp only at hs; obtain ⟨j, a, rfl, hj, ha1, ha2, he, t0, t1, t2, t7, rfl⟩ := hs
        by_cases hlt : j < l.length
        · rw [List.drop_eq_getElem_cons hlt] at he
          by_cases ha : a ≥ 0
          · obtain ⟨o1, o2, o3, o4⟩ := (T.ok_eq _).1 (QfP hlt ho)
            simp only [weighs, if_neg (show ¬ a < 0 by omega)] at he
            have hq : ((l[j].name.size : Int)).tdiv 8 = ((l[j].name.size / 8 : Nat) : Int) := by
              rw [Int.tdiv_eq_ediv_of_nonneg (by omega)]; omega
            have hw1 : IntKind.i64.wrap (a - 1) = a - 1 := XZ (by omega)
            have hw2 : IntKind.i64.wrap (((l[j].name.size / 8 : Nat) : Int)) = ((l[j].name.size / 8 : Nat) : Int) := XZ (by omega)
            have hw3 : IntKind.i64.wrap (a - 1 - ((l[j].name.size / 8 : Nat) : Int)) = a - 1 - ((l[j].name.size / 8 : Nat) : Int) := XZ (by omega)
            have hr := QbG d (by omega) l[j].args (a - 1 - ((l[j].name.size / 8 : Nat) : Int)) o4 (by omega) (by omega)
            have hrb := Zq d l[j].args (a - 1 - ((l[j].name.size / 8 : Nat) : Int))
            have hsl := fun s => Qaz Tryz.prog 9 3 (by kernel_rfl) s
            repeat (first | ((first | (with_reducible (first | refine Qa fun K E hK hE => ?_ | refine Qn fun K E hK hE => ?_ | refine QP hr ?_)) | (refine Xv (id := 6) [(0, 0), (1, 0), (2, 0), (3, 0), (4, 0), (5, 0), (6, 0), (7, 0), (8, 0), (9, 0), (10, 0), (11, 0), (12, 0), (13, 0), (14, 0), (15, 0), (16, 0), (17, 1), (18, 0)] mixed (by kernel_rfl) fun K hK => ?_)); simp -implicitDefEqProofs only [Xc, Q7, Xn, Qf, Qb, Qi, OpW, aop, AS.ev, Qc, Qq, Qm, ↓reduceIte, Nat.reduceLT, Nat.reduceLeDiff, Nat.reduceEqDiff, Nat.zero_add, and_self, Ql, QI, QJ, QL, aBin, aLen, List.getElem?_cons_zero, List.getElem?_cons_succ, Option.map_some, Option.bind_some, List.getElem?_toArray, List.map_cons, List.map_nil, QY, Ze, Xj, Ys, goInt, decide_true, beq_self_eq_true, Int.toNat_natCast, Int.natCast_nonneg, Int.ofNat_lt, T.Qj2, QG, ti9, ti44, ei44, un44, X6, XL, t0, t1, t2, t7, hlt, ha, Zc hlt, hsl, Y4, hq, hw1, hw2, hw3, hwd]) | (with_reducible (first | refine Qh fun K hK => ?_ | refine Qk ?_ | refine Qt ?_ | refine Qe ?_ | refine Qs ?_)) | ((with_reducible refine hK _ ?_); clear hK) | (refine Qj rfl ?_; simp only [↓reduceIte]))
            refine XE.mk (m' := l.length - (j + 1)) (by omega) ?_
            rw [hI]
            refine ⟨j + 1, _, rfl, hlt, ?_, ?_, he, t0, rfl, t2, ?_, rfl⟩
            · exact hrb.1
            · omega
            · simp only [upd, ↓reduceIte]
              rw [Xf (by omega)]
          · have he2 : weigh (d + 1) l n = a := by rw [hw, he, QfU _ (by omega)]
            repeat (first | (((with_reducible refine Qa fun K E hK hE => ?_)); simp -implicitDefEqProofs only [Qf, Qb, Qi, OpW, aop, AS.ev, Qc, Qq, Qm, ↓reduceIte, Nat.reduceLT, Nat.reduceEqDiff, aBin, aLen, List.getElem?_cons_zero, List.getElem?_cons_succ, Option.map_some, Option.bind_some, List.getElem?_toArray, QY, Ze, goInt, decide_true, decide_false, beq_self_eq_true, Int.ofNat_lt, QG, un44, t0, t1, t7, hlt, ha]) | (with_reducible (first | refine Qh fun K hK => ?_ | refine Qo ?_ | refine Q1 ?_ | refine Qe ?_ | refine QS ?_ | refine QR ?_)) | ((with_reducible refine hK _ ?_); clear hK) | (clear hK; (with_reducible refine hK _ ?_); clear hK) | (refine Qj rfl ?_; simp only [↓reduceIte, Bool.false_eq_true]))
            simp only [QO, Qp, Qv, upd, ↓reduceIte, Option.some.injEq, exists_eq_left']
            exact Qd List.take_length (.keep (.v _)) ⟨by rw [he2], rfl⟩
        · have hjl : j = l.length := by omega
          have he2 : weigh (d + 1) l n = a := by rw [hw, he, hjl, List.drop_length]; rfl
          repeat (first | (((with_reducible refine Qa fun K E hK hE => ?_)); simp -implicitDefEqProofs only [Qf, Qb, Qi, OpW, aop, undef, AS.ev, Qc, Qz, Qm, ↓reduceIte, Nat.reduceLT, Nat.reduceEqDiff, aBin, aLen, List.getElem?_cons_zero, List.getElem?_cons_succ, Option.map_some, Option.bind_some, List.getElem?_toArray, QY, goInt, decide_false, Int.ofNat_lt, Bool.false_eq_true, beq_true, QG, un44, t0, t1, t7, hlt]) | (with_reducible (first | refine Qh fun K hK => ?_ | refine Qo ?_ | refine Q1 ?_ | refine Qe ?_ | refine QS ?_ | refine QR ?_)) | ((with_reducible refine hK _ ?_); clear hK) | (clear hK; (with_reducible refine hK _ ?_); clear hK) | (refine Qj rfl ?_; simp only [↓reduceIte, Bool.false_eq_true]))
          simp only [QO, Qp, Qv, upd, ↓reduceIte, Option.some.injEq, exists_eq_left']
          exact Qd List.take_length (.keep (.v _)) ⟨by rw [he2], rfl⟩
      · rw [hI]
        exact ⟨0, n, by omega, Nat.zero_le _, by omega, Int.le_refl _, by rw [List.drop_zero], rfl, rfl, rfl, rfl, rfl⟩
def G.ok (g : G) : Prop := i64 g.op ∧ g.name.size ≤ 9223372036854775807 ∧ oks g.args
def XS : List G → Int → Int
  | [], n => n
  | g :: l, n => if n < 0 then n else XS l (weigh 64 g.args (n - 1 - (g.name.size / 8 : Nat)))
def ndsG : List G → Nat
  | [] => 0
  | g :: l => ndsL g.args + ndsG l
theorem QeE : ∀ (l : List G) (n : Int), 0 ≤ XS l n → (ndsG l : Int) ≤ n
  | [], n, h => by simpa [XS, ndsG] using h
  | g :: l, n, h => by
    simp only [XS] at h
    split at h
    · omega
    · have h1 := QeE l _ h
      have h2 := Qfj 64 g.args (n - 1 - (g.name.size / 8 : Nat)) (by omega)
      simp only [ndsG]
      omega
theorem QcW {l : List G} {n : Int} (h : n < 0) : XS l n = n := by
  cases l with
  | nil => rfl
  | cons g l => simp only [XS, if_pos h]
theorem Qat (l : List G) (n : Int) (ho : ∀ g ∈ l, g.ok) (hb : l.length ≤ 9223372036854775807) (hn1 : -1 ≤ n) (hn2 : n ≤ 1000000) : Pure Tryz.prog 78 [.sl 2 (vs G.atom l) none, .i n] (.b (decide (XS l n < 0))) := by
  intro h
  refine Qg Tryz.func78 rfl Tryz.call78 Tryz.ntmps78 (congrArg Array.toList Tryz.results78) (by simp) ?_
  repeat (first | (((with_reducible refine Qa fun K E hK hE => ?_)); simp -implicitDefEqProofs only [Qf, Qb, Qi, OpW, aop, AS.ev, Qc, Qq, Qz, Nat.reduceLT]) | (with_reducible (first | refine Qh fun K hK => ?_ | refine Qk ?_)) | ((with_reducible refine hK _ ?_); clear hK))
  obtain ⟨I, hI⟩ : ∃ I : Nat → AS → Prop, I = fun m' s => ∃ (j : Nat) (a : Int), m' = l.length - j ∧ j ≤ l.length ∧ -1 ≤ a ∧ a ≤ n ∧ XS l n = XS (l.drop j) a ∧ s.tm 0 = .sl 2 (vs G.atom l) none ∧ s.tm 1 = .i a ∧ s.tm 5 = .i j ∧ s.h = h := ⟨_, rfl⟩; refine Q4 I ?_ (m := l.length) ?_
  · intro m' s hs; rw [hI] at hs; obtain ⟨tm, hp⟩ := s; dsimp only at hs; obtain ⟨j, a, rfl, hj, ha1, ha2, he, t0, t1, t5, rfl⟩ := hs
    by_cases hlt : j < l.length
    · rw [List.drop_eq_getElem_cons hlt] at he
      by_cases ha : a ≥ 0
      · obtain ⟨_, o3, o4⟩ := ho _ (List.getElem_mem hlt)
        simp only [XS, if_neg (show ¬ a < 0 by omega)] at he
        have hq : ((l[j].name.size : Int)).tdiv 8 = ((l[j].name.size / 8 : Nat) : Int) := by
          rw [Int.tdiv_eq_ediv_of_nonneg (by omega)]; omega
        have hw1 : IntKind.i64.wrap (a - 1) = a - 1 := XZ (by omega)
        have hw2 : IntKind.i64.wrap (((l[j].name.size / 8 : Nat) : Int)) = ((l[j].name.size / 8 : Nat) : Int) := XZ (by omega)
        have hw3 : IntKind.i64.wrap (a - 1 - ((l[j].name.size / 8 : Nat) : Int)) = a - 1 - ((l[j].name.size / 8 : Nat) : Int) := XZ (by omega)
        have hr := QbG 64 (by omega) l[j].args (a - 1 - ((l[j].name.size / 8 : Nat) : Int)) o4 (by omega) (by omega)
        have hrb := Zq 64 l[j].args (a - 1 - ((l[j].name.size / 8 : Nat) : Int))
        have hsl := fun s => Qaz Tryz.prog 9 3 (by kernel_rfl) s
        have h64 : ((64 : Nat) : Int) = 64 := rfl
        rw [h64] at hr
        repeat (first | ((first | (with_reducible (first | refine Qa fun K E hK hE => ?_ | refine Qn fun K E hK hE => ?_ | refine QP hr ?_)) | (refine Xv (id := 4) [(0, 0), (1, 0), (2, 0), (3, 0), (4, 0), (5, 0), (6, 0), (7, 0), (8, 0), (9, 0), (10, 0), (11, 0), (12, 0), (13, 0), (14, 0), (15, 1), (16, 0)] mixed (by kernel_rfl) fun K hK => ?_)); simp -implicitDefEqProofs only [Xc, Q7, Xn, Qf, Qb, Qi, OpW, aop, AS.ev, Qc, Qq, Qm, Qr, ↓reduceIte, Nat.reduceLT, Nat.reduceLeDiff, Nat.reduceEqDiff, Nat.zero_add, Nat.add_zero, and_self, Ql, QI, QJ, QL, aBin, aLen, List.getElem?_cons_zero, List.getElem?_cons_succ, Option.map_some, Option.bind_some, List.getElem?_toArray, List.map_cons, List.map_nil, QY, Ze, Xj, Ys, goInt, decide_true, beq_self_eq_true, Int.toNat_natCast, Int.natCast_nonneg, Int.ofNat_lt, ti9, ei22, un22, ti44, ZB, Zi, t0, t1, t5, hlt, ha, QF, YG G.atom hlt, G.atom, hsl, Y4, hq, hw1, hw2, hw3]) | (with_reducible (first | refine Qh fun K hK => ?_ | refine Qk ?_ | refine Qt ?_ | refine Qe ?_ | refine Qs ?_)) | ((with_reducible refine hK _ ?_); clear hK) | (refine Qj rfl ?_; simp only [↓reduceIte]))
        refine XE.mk (m' := l.length - (j + 1)) (by omega) ?_
        rw [hI]
        refine ⟨j + 1, _, rfl, hlt, ?_, ?_, he, t0, rfl, ?_, rfl⟩
        · exact hrb.1
        · omega
        · simp only [upd, ↓reduceIte]
          rw [Xf (by omega)]
      · have he2 : XS l n = a := by rw [he, QcW (by omega)]
        repeat (first | (((with_reducible refine Qa fun K E hK hE => ?_)); simp -implicitDefEqProofs only [Qf, Qb, Qi, OpW, aop, AS.ev, Qc, Qq, Qm, ↓reduceIte, Nat.reduceLT, Nat.reduceEqDiff, aBin, aLen, List.getElem?_cons_zero, List.getElem?_cons_succ, Option.map_some, Option.bind_some, List.getElem?_toArray, QY, Ze, goInt, decide_true, decide_false, beq_self_eq_true, Int.ofNat_lt, un22, t0, t1, t5, hlt, ha, QF]) | (with_reducible (first | refine Qh fun K hK => ?_ | refine Qo ?_ | refine Q1 ?_ | refine Qe ?_ | refine QS ?_ | refine QR ?_)) | ((with_reducible refine hK _ ?_); clear hK) | (clear hK; (with_reducible refine hK _ ?_); clear hK) | (refine Qj rfl ?_; simp only [↓reduceIte, Bool.false_eq_true]))
        simp only [QO, Qp, Qv, upd, ↓reduceIte, Option.some.injEq, exists_eq_left']
        exact Qd List.take_length (.keep (.v _)) ⟨by rw [he2], rfl⟩
    · have hjl : l.drop j = [] := List.drop_eq_nil_of_le (by omega)
      have he2 : XS l n = a := by rw [he, hjl]; rfl
      repeat (first | (((with_reducible refine Qa fun K E hK hE => ?_)); simp -implicitDefEqProofs only [Qf, Qb, Qi, OpW, aop, undef, AS.ev, Qc, Qq, Qz, Qm, ↓reduceIte, Nat.reduceLT, Nat.reduceEqDiff, aBin, aLen, List.getElem?_cons_zero, List.getElem?_cons_succ, Option.map_some, Option.bind_some, List.getElem?_toArray, QY, goInt, decide_false, Int.ofNat_lt, Bool.false_eq_true, beq_true, un22, t0, t1, t5, hlt, QF]) | (with_reducible (first | refine Qh fun K hK => ?_ | refine Qo ?_ | refine Q1 ?_ | refine Qe ?_ | refine QS ?_ | refine QR ?_)) | ((with_reducible refine hK _ ?_); clear hK) | (clear hK; (with_reducible refine hK _ ?_); clear hK) | (refine Qj rfl ?_; simp only [↓reduceIte, Bool.false_eq_true]))
      simp only [QO, Qp, Qv, upd, ↓reduceIte, Option.some.injEq, exists_eq_left']
      exact Qd List.take_length (.keep (.v _)) ⟨by rw [he2], rfl⟩
  · rw [hI]
    exact ⟨0, n, by omega, Nat.zero_le _, hn1, Int.le_refl _, by rw [List.drop_zero], rfl, rfl, rfl, rfl⟩
theorem Qav (l : List G) (n : Int) (ho : ∀ g ∈ l, g.ok) (hb : l.length ≤ 9223372036854775807) (hn1 : -1 ≤ n) (hn2 : n ≤ 1000000) : Pure Tryz.prog 15 [.sl 3 (vs G.goal l) none, .i n] (.b (decide (XS l n < 0))) := by
  intro h
  refine Qg Tryz.func15 rfl Tryz.call15 Tryz.ntmps15 (congrArg Array.toList Tryz.results15) (by simp) ?_
  repeat (first | (((with_reducible refine Qa fun K E hK hE => ?_)); simp -implicitDefEqProofs only [Qf, Qb, Qi, OpW, aop, AS.ev, Qc, Qq, Qz, Nat.reduceLT]) | (with_reducible (first | refine Qh fun K hK => ?_ | refine Qk ?_)) | ((with_reducible refine hK _ ?_); clear hK))
  obtain ⟨I, hI⟩ : ∃ I : Nat → AS → Prop, I = fun m' s => ∃ (j : Nat) (a : Int), m' = l.length - j ∧ j ≤ l.length ∧ -1 ≤ a ∧ a ≤ n ∧ XS l n = XS (l.drop j) a ∧ s.tm 0 = .sl 3 (vs G.goal l) none ∧ s.tm 1 = .i a ∧ s.tm 5 = .i j ∧ s.h = h := ⟨_, rfl⟩; refine Q4 I ?_ (m := l.length) ?_
  · intro m' s hs; rw [hI] at hs; obtain ⟨tm, hp⟩ := s; dsimp only at hs; obtain ⟨j, a, rfl, hj, ha1, ha2, he, t0, t1, t5, rfl⟩ := hs
    by_cases hlt : j < l.length
    · rw [List.drop_eq_getElem_cons hlt] at he
      by_cases ha : a ≥ 0
      · obtain ⟨_, o3, o4⟩ := ho _ (List.getElem_mem hlt)
        simp only [XS, if_neg (show ¬ a < 0 by omega)] at he
        have hq : ((l[j].name.size : Int)).tdiv 8 = ((l[j].name.size / 8 : Nat) : Int) := by
          rw [Int.tdiv_eq_ediv_of_nonneg (by omega)]; omega
        have hw1 : IntKind.i64.wrap (a - 1) = a - 1 := XZ (by omega)
        have hw2 : IntKind.i64.wrap (((l[j].name.size / 8 : Nat) : Int)) = ((l[j].name.size / 8 : Nat) : Int) := XZ (by omega)
        have hw3 : IntKind.i64.wrap (a - 1 - ((l[j].name.size / 8 : Nat) : Int)) = a - 1 - ((l[j].name.size / 8 : Nat) : Int) := XZ (by omega)
        have hr := QbG 64 (by omega) l[j].args (a - 1 - ((l[j].name.size / 8 : Nat) : Int)) o4 (by omega) (by omega)
        have hrb := Zq 64 l[j].args (a - 1 - ((l[j].name.size / 8 : Nat) : Int))
        have hsl := fun s => Qaz Tryz.prog 9 3 (by kernel_rfl) s
        have h64 : ((64 : Nat) : Int) = 64 := rfl
        rw [h64] at hr
        repeat (first | ((first | (with_reducible (first | refine Qa fun K E hK hE => ?_ | refine Qn fun K E hK hE => ?_ | refine QP hr ?_)) | (refine Xv (id := 4) [(0, 0), (1, 0), (2, 0), (3, 0), (4, 0), (5, 0), (6, 0), (7, 0), (8, 0), (9, 0), (10, 0), (11, 0), (12, 0), (13, 0), (14, 0), (15, 1), (16, 0)] mixed (by kernel_rfl) fun K hK => ?_)); simp -implicitDefEqProofs only [Xc, Q7, Xn, Qf, Qb, Qi, OpW, aop, AS.ev, Qc, Qq, Qm, Qr, ↓reduceIte, Nat.reduceLT, Nat.reduceLeDiff, Nat.reduceEqDiff, Nat.zero_add, and_self, Ql, QI, QJ, QL, aBin, aLen, List.getElem?_cons_zero, List.getElem?_cons_succ, Option.map_some, Option.bind_some, List.getElem?_toArray, List.map_cons, List.map_nil, QY, Ze, Xj, Ys, goInt, decide_true, beq_self_eq_true, Int.toNat_natCast, Int.natCast_nonneg, Int.ofNat_lt, ti9, ei23, un23, ti44, YZ, Yg, t0, t1, t5, hlt, ha, QF, YG G.goal hlt, G.goal, hsl, Y4, hq, hw1, hw2, hw3]) | (with_reducible (first | refine Qh fun K hK => ?_ | refine Qk ?_ | refine Qt ?_ | refine Qe ?_ | refine Qs ?_)) | ((with_reducible refine hK _ ?_); clear hK) | (refine Qj rfl ?_; simp only [↓reduceIte]))
        refine XE.mk (m' := l.length - (j + 1)) (by omega) ?_
        rw [hI]
        refine ⟨j + 1, _, rfl, hlt, ?_, ?_, he, t0, rfl, ?_, rfl⟩
        · exact hrb.1
        · omega
        · simp only [upd, ↓reduceIte]
          rw [Xf (by omega)]
      · have he2 : XS l n = a := by rw [he, QcW (by omega)]
        repeat (first | (((with_reducible refine Qa fun K E hK hE => ?_)); simp -implicitDefEqProofs only [Qf, Qb, Qi, OpW, aop, AS.ev, Qc, Qq, Qm, ↓reduceIte, Nat.reduceLT, Nat.reduceEqDiff, aBin, aLen, List.getElem?_cons_zero, List.getElem?_cons_succ, Option.map_some, Option.bind_some, List.getElem?_toArray, QY, Ze, goInt, decide_true, decide_false, beq_self_eq_true, Int.ofNat_lt, un23, t0, t1, t5, hlt, ha, QF]) | (with_reducible (first | refine Qh fun K hK => ?_ | refine Qo ?_ | refine Q1 ?_ | refine Qe ?_ | refine QS ?_ | refine QR ?_)) | ((with_reducible refine hK _ ?_); clear hK) | (clear hK; (with_reducible refine hK _ ?_); clear hK) | (refine Qj rfl ?_; simp only [↓reduceIte, Bool.false_eq_true]))
        simp only [QO, Qp, Qv, upd, ↓reduceIte, Option.some.injEq, exists_eq_left']
        exact Qd List.take_length (.keep (.v _)) ⟨by rw [he2], rfl⟩
    · have hjl : l.drop j = [] := List.drop_eq_nil_of_le (by omega)
      have he2 : XS l n = a := by rw [he, hjl]; rfl
      repeat (first | (((with_reducible refine Qa fun K E hK hE => ?_)); simp -implicitDefEqProofs only [Qf, Qb, Qi, OpW, aop, undef, AS.ev, Qc, Qq, Qz, Qm, ↓reduceIte, Nat.reduceLT, Nat.reduceEqDiff, aBin, aLen, List.getElem?_cons_zero, List.getElem?_cons_succ, Option.map_some, Option.bind_some, List.getElem?_toArray, QY, goInt, decide_false, Int.ofNat_lt, Bool.false_eq_true, beq_true, un23, t0, t1, t5, hlt, QF]) | (with_reducible (first | refine Qh fun K hK => ?_ | refine Qo ?_ | refine Q1 ?_ | refine Qe ?_ | refine QS ?_ | refine QR ?_)) | ((with_reducible refine hK _ ?_); clear hK) | (clear hK; (with_reducible refine hK _ ?_); clear hK) | (refine Qj rfl ?_; simp only [↓reduceIte, Bool.false_eq_true]))
      simp only [QO, Qp, Qv, upd, ↓reduceIte, Option.some.injEq, exists_eq_left']
      exact Qd List.take_length (.keep (.v _)) ⟨by rw [he2], rfl⟩
  · rw [hI]
    exact ⟨0, n, by omega, Nat.zero_le _, hn1, Int.le_refl _, by rw [List.drop_zero], rfl, rfl, rfl, rfl⟩
end Go.Proofs.YtenheconhibonaaGreatDoor.Ab
set_option linter.unusedSimpArgs false
set_option linter.unusedVariables false
set_option maxHeartbeats 4000000
set_option maxRecDepth 4000
namespace Go.Proofs.YtenheconhibonaaGreatDoor.Ab
open Go.Proofs
def Rl.ok (r : Rl) : Prop := r.name.size ≤ 9223372036854775807 ∧ r.keep.length ≤ 9223372036854775807 ∧ r.remove.length ≤ 9223372036854775807 ∧ r.guard.length ≤ 9223372036854775807 ∧ r.body.length ≤ 9223372036854775807 ∧
  (∀ g ∈ r.keep, g.ok) ∧ (∀ g ∈ r.remove, g.ok) ∧ (∀ g ∈ r.guard, g.ok) ∧ (∀ g ∈ r.body, g.ok)
def Y5 (r : Rl) : Bool := decide (300 < r.name.size / 8 + r.keep.length + r.remove.length) || (decide (XS r.keep 300 < 0) || (decide (XS r.remove 300 < 0) || (decide (XS r.guard 300 < 0) || decide (XS r.body 300 < 0))))
theorem QaV : ∀ (l : List G) (n : Int), 0 ≤ XS l n → (l.length : Int) ≤ n
  | [], n, h => by simpa [XS] using h
  | g :: l, n, h => by
    simp only [XS] at h
    split at h
    · omega
    · have h1 := QaV l _ h
      have h2 := (Zq 64 g.args (n - 1 - (g.name.size / 8 : Nat))).2
      simp only [List.length_cons]
      omega
theorem Qhr {r : Rl} (o1 : r.name.size ≤ 9223372036854775807) (o2 : r.keep.length ≤ 9223372036854775807) (o3 : r.remove.length ≤ 9223372036854775807) :
    (IntKind.i64.wrap (IntKind.i64.wrap (((r.name.size / 8 : Nat) : Int) + r.keep.length) + r.remove.length) > 300 → Y5 r = true) ∧
    (¬ IntKind.i64.wrap (IntKind.i64.wrap (((r.name.size / 8 : Nat) : Int) + r.keep.length) + r.remove.length) > 300 → Y5 r = (decide (XS r.keep 300 < 0) || (decide (XS r.remove 300 < 0) || (decide (XS r.guard 300 < 0) || decide (XS r.body 300 < 0))))) := by
  by_cases hn : 300 < r.name.size / 8 + r.keep.length + r.remove.length
  · have R : Y5 r = true := by rw [Y5, decide_eq_true hn]; rfl
    refine ⟨fun _ => R, fun hz => ?_⟩
    have hbig : 300 < r.keep.length ∨ 300 < r.remove.length := by
      apply Classical.byContradiction
      intro hc
      rw [XZ (n := ((r.name.size / 8 : Nat) : Int) + r.keep.length) (by omega), XZ (by omega)] at hz
      omega
    rw [R]
    rcases hbig with hb | hb
    · have : XS r.keep 300 < 0 := by
        apply Classical.byContradiction
        intro hc
        have := QaV r.keep 300 (by omega)
        omega
      rw [decide_eq_true this]; rfl
    · have : XS r.remove 300 < 0 := by
        apply Classical.byContradiction
        intro hc
        have := QaV r.remove 300 (by omega)
        omega
      rw [decide_eq_true this]; simp
  · rw [XZ (n := ((r.name.size / 8 : Nat) : Int) + r.keep.length) (by omega), XZ (by omega)]
    exact ⟨fun hz => by omega, fun _ => by rw [Y5, decide_eq_false hn, Bool.false_or]⟩
theorem QcT (l : List Rl) (hl : l.length ≤ 45) (ho : ∀ r ∈ l, r.ok) : Pure Tryz.prog 30 [.sl 6 (vs Rl.av l) none, .i 300] (.b (l.any Y5)) := by
  intro h
  have w0 : ¬ (l.length : Int) > 300 := by omega
  have hsl := fun s => Qaz Tryz.prog 9 3 Qjh s
  refine Qg Tryz.func30 rfl Tryz.call30 Tryz.ntmps30 (congrArg Array.toList Tryz.results30) (by simp) ?_
  repeat (first | (((with_reducible refine Qa fun K E hK hE => ?_)); simp -implicitDefEqProofs only [Qf, Qb, Qi, OpW, aop, AS.ev, Qc, Qq, Qz, Nat.reduceLT]) | (with_reducible (first | refine Qh fun K hK => ?_ | refine Qk ?_)) | ((with_reducible refine hK _ ?_); clear hK))
  obtain ⟨I, hI⟩ : ∃ I : Nat → AS → Prop, I = fun m' s => ∃ (k : Nat), m' = l.length - k ∧ k ≤ l.length ∧ l.any Y5 = (l.drop k).any Y5 ∧ s.tm 0 = .sl 6 (vs Rl.av l) none ∧ s.tm 1 = .i 300 ∧ s.tm 5 = .i k ∧ (∃ L, s.h = h ++ L) := ⟨_, rfl⟩; refine Q4 I ?_ (m := l.length) ?_
  · intro m' s hs; rw [hI] at hs; obtain ⟨tm, hp⟩ := s; dsimp only at hs; obtain ⟨k, rfl, hk, he, t0, t1, t5, L, rfl⟩ := hs
    by_cases hlt : k < l.length
    · have hg := YG Rl.av hlt
      have z1 : (k : Int) < l.length := by omega
      rw [List.drop_eq_getElem_cons hlt, List.any_cons] at he
      obtain ⟨r, er⟩ : ∃ r, r = l[k] := ⟨_, rfl⟩
      obtain ⟨o1, o2, o3, o4, o5, p1, p2, p3, p4⟩ := ho l[k] (List.getElem_mem hlt)
      rw [← er] at hg he o1 o2 o3 o4 o5 p1 p2 p3 p4
      have c1 := Qat r.keep 300 p1 (by omega) (by omega) (by omega)
      have c2 := Qat r.remove 300 p2 (by omega) (by omega) (by omega)
      have c3 := Qav r.guard 300 p3 (by omega) (by omega) (by omega)
      have c4 := Qav r.body 300 p4 (by omega) (by omega) (by omega)
      have hq : ((r.name.size : Int)).tdiv 8 = ((r.name.size / 8 : Nat) : Int) := by rw [Int.tdiv_eq_ediv_of_nonneg (by omega)]; omega
      have hw2 : IntKind.i64.wrap (((r.name.size / 8 : Nat) : Int)) = ((r.name.size / 8 : Nat) : Int) := XZ (by omega)
      obtain ⟨key1, key2⟩ := Qhr o1 o2 o3
      obtain ⟨a3, hw3⟩ : ∃ a, IntKind.i64.wrap (((r.name.size / 8 : Nat) : Int) + r.keep.length) = a := ⟨_, rfl⟩
      rw [hw3] at key1 key2
      obtain ⟨a4, hw4⟩ : ∃ a, IntKind.i64.wrap (a3 + r.remove.length) = a := ⟨_, rfl⟩
      rw [hw4] at key1 key2
      iterate 11 (try (first | (((with_reducible refine Qa fun K E hK hE => ?_)); simp -implicitDefEqProofs only [Qf, Qb, Qi, OpW, aop, undef, AS.ev, Qc, QV, Qm, AV.Qj3, Qr, QD, List.all_cons, List.all_nil, QB, Qw, QN, QH, Bool.and_self, ↓reduceIte, List.length_cons, List.length_nil, Nat.reduceAdd, Nat.reduceLT, Nat.reduceEqDiff, Nat.zero_add, and_self, QI, QJ, Xb, QZ, QL, aBin, aLen, QX, hget, X0, hset, hlen, happ, List.getElem?_cons_zero, List.set_cons_zero, Option.map_some, QY, goInt, decide_true, Int.toNat_natCast, Int.natCast_nonneg, ti25, zi25, ei27, un27, t0, t5, z1, hg, QF, Rl.cells, Rl.isAgg]) | (with_reducible (first | refine Qh fun K hK => ?_ | refine Qk ?_ | refine Qt ?_ | refine Qe ?_)) | ((with_reducible refine hK _ ?_); clear hK) | (refine Qj rfl ?_; simp only [↓reduceIte])))
      refine X2 (fun s => s.tm 60 = .b (Y5 r) ∧ s.tm 0 = .sl 6 (vs Rl.av l) none ∧ s.tm 1 = .i 300 ∧ s.tm 5 = .i k ∧ (∃ L, s.h = h ++ L)) ?_ ?_
      · rintro ⟨tm, hp⟩ ⟨t60, t0, t1, t5, L, hh⟩
        dsimp only at t60 t0 t1 t5 hh
        subst hh
        cases hgr : Y5 r with
        | true =>
          rw [hgr] at t60 he
          refine Qj (by exact t60) ?_
          simp only [↓reduceIte]
          repeat (first | (((with_reducible refine Qa fun K E hK hE => ?_)); simp -implicitDefEqProofs only [Qf, Qb, Qi, OpW, aop, AS.ev, Qc, Qz, Nat.reduceLT]) | (with_reducible (first | refine Qo ?_ | refine QA ?_ | refine QE ?_)) | ((with_reducible refine hK _ ?_); clear hK))
          simp only [QO, Qp, Qv, upd, ↓reduceIte, Option.some.injEq, exists_eq_left']; first | refine Qd (htake _ _) (.keep (.v _)) ⟨by rw [he]; rfl, rfl⟩ | refine Qd List.take_length (.keep (.v _)) ⟨by rw [he]; rfl, rfl⟩
        | false =>
          rw [hgr] at t60 he
          refine Qj (by exact t60) ?_
          simp only [Bool.false_eq_true, ↓reduceIte]
          repeat (first | (((with_reducible refine Qn fun K E hK hE => ?_)); simp -implicitDefEqProofs only [Qf, Qb, Qi, OpW, aop, AS.ev, Qc, Qq, Qm, ↓reduceIte, Nat.reduceLT, aBin, Option.map_some, Xj, t5]) | (with_reducible (first | refine Qt ?_ | refine Qe ?_ | refine Qs ?_)) | ((with_reducible refine hK _ ?_); clear hK))
          refine XE.mk (m' := l.length - (k + 1)) (by omega) ?_
          rw [hI]
          refine ⟨k + 1, rfl, hlt, by rw [he]; rfl, t0, t1, ?_, _, rfl⟩
          simp only [upd, ↓reduceIte]
          rw [Xf (by omega)]
      · by_cases d0' : a4 > 300
        · have R : Y5 r = true := key1 d0'
          (with_reducible refine Qn fun K E hK hE => ?_)
          (try simp only [List.toList_toArray]); refine QT 5 (fun K1 hK1 => ?_); simp -implicitDefEqProofs only [Qf, Qb, Qi, OpW, aop, AS.ev, Qc, Qm, ↓reduceIte, Nat.reduceLT, Nat.reduceEqDiff, aBin, aLen, Option.map_some, List.take_succ_cons, List.take_zero, Q6, goInt, decide_false, un27, t0, t1, w0, QF]; refine hK1 _ ?_; clear hK1
          (try simp only [List.drop_succ_cons, List.drop_zero]); refine QT 8 (fun K1 hK1 => ?_); simp -implicitDefEqProofs only [Qf, Qb, Qi, OpW, aop, AS.ev, Qc, Qq, Qm, ↓reduceIte, Nat.reduceLT, Nat.reduceEqDiff, Nat.zero_add, Nat.add_zero, Ql, QI, QJ, aBin, aLen, QX, hget, List.getElem?_cons_zero, List.getElem?_cons_succ, Option.map_some, Option.bind_some, List.getElem?_toArray, List.take_succ_cons, List.take_zero, Xj, goInt, beq_self_eq_true, ti9, ti22, un22, XX, XY, QF, Rl.cells, hsl, Y4, hq, hw2, hw3]; refine hK1 _ ?_; clear hK1
          (try simp only [List.drop_succ_cons, List.drop_zero]); refine QT 8 (fun K1 hK1 => ?_); simp -implicitDefEqProofs only [Qf, Qb, Qi, OpW, aop, AS.ev, Qc, Qm, ↓reduceIte, Nat.reduceLT, Nat.reduceEqDiff, Nat.zero_add, Ql, QI, QJ, aBin, aLen, QX, hget, List.getElem?_cons_zero, List.getElem?_cons_succ, Option.map_some, Option.bind_some, List.getElem?_toArray, List.take_succ_cons, List.take_zero, Q6, Xj, goInt, decide_true, beq_self_eq_true, Bool.false_eq_true, ti22, un22, X1, t1, QF, Rl.cells, hw4, d0']; refine hK1 _ ?_; clear hK1
          (try simp only [List.drop_succ_cons, List.drop_zero]); refine QT 6 (fun K1 hK1 => ?_); simp -implicitDefEqProofs only [Qf, Qb, Qi, OpW, aop, undef, AS.ev, Qc, Qz, Qm, Bool.not_true, ↓reduceIte, Nat.reduceLT, Nat.reduceEqDiff, List.getElem?_cons_zero, List.getElem?_cons_succ, Option.bind_some, List.getElem?_toArray, List.take_succ_cons, List.take_zero, beq_false]; (repeat ((((with_reducible refine Qa fun K E hK hE => ?_)); simp -implicitDefEqProofs only [Qf, Qb, Qi, OpW, QW, aop, undef, Zh, List.isEmpty_nil, List.isEmpty_cons, Qab, YQ, Zn, AS.ev, Qc, QV, Qq, Qz, QM, Xo, Zr, XB, XO, Xs, Zk, Qm, QC, List.getD_cons_zero, List.getD_cons_succ, AV.Qj3, Qr, Q3, Xp, Yv, Xd, Yo, YO, YW, Yk, QD, Xt, XT, Yn, Yi, Yl, YU, YT, Yu, List.all_cons, List.all_nil, QB, X7, Qw, QN, Yp, Q9, Xy, Xr, QH, Yq, Xh, Yt, YR, YS, Ym, Bool.and_self, Bool.and_true, Bool.true_and, Bool.not_true, Bool.not_false, ↓reduceIte, List.length_cons, List.length_nil, Nat.reduceAdd, Nat.reduceLT, Nat.reduceLeDiff, Nat.reduceEqDiff, Nat.reduceSub, Nat.reduceMul, Nat.zero_add, Nat.add_zero, true_and, and_true, and_self, XN, XF, Ql, QI, QJ, Xb, QZ, QL, aBin, aLen, QX, hget, X0, hset, hlen, happ, List.getElem?_cons_zero, List.getElem?_cons_succ, List.getElem?_nil, List.set_cons_zero, List.set_cons_succ, Option.map_some, Option.map_none, Option.bind_some, Option.bind_none, Option.some.injEq, List.toList_toArray, List.getElem?_toArray, List.map_cons, List.map_nil, List.cons_append, List.nil_append, List.append_nil, List.take_succ_cons, List.take_zero, List.drop_succ_cons, List.drop_zero, QY, Q6, Xj, Qal, QaI, goInt, decide_true, decide_false, beq_self_eq_true, bne_self_eq_false, Int.toNat_natCast, Int.toNat_zero, Int.toNat_one, Int.natCast_nonneg, Int.ofNat_lt, Int.ofNat_le, Int.natCast_zero, Bool.false_eq_true, Bool.true_eq_false, beq_true, beq_false, rng0, rng1, rng2, rng3, rng4, rng5, rng6, rng7, rng8, Xa, Nat.reducePow, Nat.zero_le, Nat.zero_mul, T.Qj2, T.Qj4, QG, Xe, ti0, zi0, ti3, zi3, un3, ti4, zi4, un4, ti9, ei9, zi9, un9, ti22, ei22, ai22, zi22, un22, ti23, ei23, ai23, zi23, un23, ti25, XX, XY, X1, X5, X9, ZT, zi25, sp25, ti27, ei27, ai27, zi27, un27, ti53, XR, YZ, Yg, zi53, sp53, ti66, ZB, Zi, zi66, sp66, Int.le_refl, Int.sub_zero, Qaf, Q0, t0, t1, t5, w0, QF, Rl.cells, Rl.isAgg, hsl, Y4, hq, hw2, hw3, hw4, d0']))); refine hK1 _ ?_; clear hK1
          (try simp only [List.drop_succ_cons, List.drop_zero]); refine QT 6 (fun K1 hK1 => ?_); simp -implicitDefEqProofs only [Qf, Qb, Qi, OpW, aop, undef, AS.ev, Qc, Qz, Qm, Bool.not_true, ↓reduceIte, Nat.reduceLT, Nat.reduceEqDiff, List.getElem?_cons_zero, List.getElem?_cons_succ, Option.bind_some, List.getElem?_toArray, List.take_succ_cons, List.take_zero, beq_false]; (repeat ((((with_reducible refine Qa fun K E hK hE => ?_)); simp -implicitDefEqProofs only [Qf, Qb, Qi, OpW, QW, aop, undef, Zh, List.isEmpty_nil, List.isEmpty_cons, Qab, YQ, Zn, AS.ev, Qc, QV, Qq, Qz, QM, Xo, Zr, XB, XO, Xs, Zk, Qm, QC, List.getD_cons_zero, List.getD_cons_succ, AV.Qj3, Qr, Q3, Xp, Yv, Xd, Yo, YO, YW, Yk, QD, Xt, XT, Yn, Yi, Yl, YU, YT, Yu, List.all_cons, List.all_nil, QB, X7, Qw, QN, Yp, Q9, Xy, Xr, QH, Yq, Xh, Yt, YR, YS, Ym, Bool.and_self, Bool.and_true, Bool.true_and, Bool.not_true, Bool.not_false, ↓reduceIte, List.length_cons, List.length_nil, Nat.reduceAdd, Nat.reduceLT, Nat.reduceLeDiff, Nat.reduceEqDiff, Nat.reduceSub, Nat.reduceMul, Nat.zero_add, Nat.add_zero, true_and, and_true, and_self, XN, XF, Ql, QI, QJ, Xb, QZ, QL, aBin, aLen, QX, hget, X0, hset, hlen, happ, List.getElem?_cons_zero, List.getElem?_cons_succ, List.getElem?_nil, List.set_cons_zero, List.set_cons_succ, Option.map_some, Option.map_none, Option.bind_some, Option.bind_none, Option.some.injEq, List.toList_toArray, List.getElem?_toArray, List.map_cons, List.map_nil, List.cons_append, List.nil_append, List.append_nil, List.take_succ_cons, List.take_zero, List.drop_succ_cons, List.drop_zero, QY, Q6, Xj, Qal, QaI, goInt, decide_true, decide_false, beq_self_eq_true, bne_self_eq_false, Int.toNat_natCast, Int.toNat_zero, Int.toNat_one, Int.natCast_nonneg, Int.ofNat_lt, Int.ofNat_le, Int.natCast_zero, Bool.false_eq_true, Bool.true_eq_false, beq_true, beq_false, rng0, rng1, rng2, rng3, rng4, rng5, rng6, rng7, rng8, Xa, Nat.reducePow, Nat.zero_le, Nat.zero_mul, T.Qj2, T.Qj4, QG, Xe, ti0, zi0, ti3, zi3, un3, ti4, zi4, un4, ti9, ei9, zi9, un9, ti22, ei22, ai22, zi22, un22, ti23, ei23, ai23, zi23, un23, ti25, XX, XY, X1, X5, X9, ZT, zi25, sp25, ti27, ei27, ai27, zi27, un27, ti53, XR, YZ, Yg, zi53, sp53, ti66, ZB, Zi, zi66, sp66, Int.le_refl, Int.sub_zero, Qaf, Q0, t0, t1, t5, w0, QF, Rl.cells, Rl.isAgg, hsl, Y4, hq, hw2, hw3, hw4, d0']))); refine hK1 _ ?_; clear hK1
          (try simp only [List.drop_succ_cons, List.drop_zero]); refine QT 6 (fun K1 hK1 => ?_); simp -implicitDefEqProofs only [Qf, Qb, Qi, OpW, aop, undef, AS.ev, Qc, Qz, Qm, Bool.not_true, ↓reduceIte, Nat.reduceLT, Nat.reduceEqDiff, List.getElem?_cons_zero, List.getElem?_cons_succ, Option.bind_some, List.getElem?_toArray, List.take_succ_cons, List.take_zero, beq_false]; (repeat ((((with_reducible refine Qa fun K E hK hE => ?_)); simp -implicitDefEqProofs only [Qf, Qb, Qi, OpW, QW, aop, undef, Zh, List.isEmpty_nil, List.isEmpty_cons, Qab, YQ, Zn, AS.ev, Qc, QV, Qq, Qz, QM, Xo, Zr, XB, XO, Xs, Zk, Qm, QC, List.getD_cons_zero, List.getD_cons_succ, AV.Qj3, Qr, Q3, Xp, Yv, Xd, Yo, YO, YW, Yk, QD, Xt, XT, Yn, Yi, Yl, YU, YT, Yu, List.all_cons, List.all_nil, QB, X7, Qw, QN, Yp, Q9, Xy, Xr, QH, Yq, Xh, Yt, YR, YS, Ym, Bool.and_self, Bool.and_true, Bool.true_and, Bool.not_true, Bool.not_false, ↓reduceIte, List.length_cons, List.length_nil, Nat.reduceAdd, Nat.reduceLT, Nat.reduceLeDiff, Nat.reduceEqDiff, Nat.reduceSub, Nat.reduceMul, Nat.zero_add, Nat.add_zero, true_and, and_true, and_self, XN, XF, Ql, QI, QJ, Xb, QZ, QL, aBin, aLen, QX, hget, X0, hset, hlen, happ, List.getElem?_cons_zero, List.getElem?_cons_succ, List.getElem?_nil, List.set_cons_zero, List.set_cons_succ, Option.map_some, Option.map_none, Option.bind_some, Option.bind_none, Option.some.injEq, List.toList_toArray, List.getElem?_toArray, List.map_cons, List.map_nil, List.cons_append, List.nil_append, List.append_nil, List.take_succ_cons, List.take_zero, List.drop_succ_cons, List.drop_zero, QY, Q6, Xj, Qal, QaI, goInt, decide_true, decide_false, beq_self_eq_true, bne_self_eq_false, Int.toNat_natCast, Int.toNat_zero, Int.toNat_one, Int.natCast_nonneg, Int.ofNat_lt, Int.ofNat_le, Int.natCast_zero, Bool.false_eq_true, Bool.true_eq_false, beq_true, beq_false, rng0, rng1, rng2, rng3, rng4, rng5, rng6, rng7, rng8, Xa, Nat.reducePow, Nat.zero_le, Nat.zero_mul, T.Qj2, T.Qj4, QG, Xe, ti0, zi0, ti3, zi3, un3, ti4, zi4, un4, ti9, ei9, zi9, un9, ti22, ei22, ai22, zi22, un22, ti23, ei23, ai23, zi23, un23, ti25, XX, XY, X1, X5, X9, ZT, zi25, sp25, ti27, ei27, ai27, zi27, un27, ti53, XR, YZ, Yg, zi53, sp53, ti66, ZB, Zi, zi66, sp66, Int.le_refl, Int.sub_zero, Qaf, Q0, t0, t1, t5, w0, QF, Rl.cells, Rl.isAgg, hsl, Y4, hq, hw2, hw3, hw4, d0']))); refine hK1 _ ?_; clear hK1
          (try simp only [List.drop_succ_cons, List.drop_zero])
          simp -implicitDefEqProofs only [Qf, Qb, Qi, OpW, aop, undef, AS.ev, Qc, Qz, Qm, Bool.not_true, ↓reduceIte, Nat.reduceLT, Nat.reduceEqDiff, List.getElem?_cons_zero, List.getElem?_cons_succ, Option.bind_some, List.getElem?_toArray, beq_false]
          repeat (first | (with_reducible refine Qe ?_) | ((with_reducible refine hK _ ?_); clear hK))
          rw [R]
          exact ⟨rfl, t0, t1, t5, _, rfl⟩
        obtain ⟨b1, w1⟩ : ∃ b, b = decide (XS r.keep 300 < 0) := ⟨_, rfl⟩
        rw [← w1] at c1
        cases b1
        rotate_left
        · have R : Y5 r = true := by rw [key2 d0', ← w1]; rfl
          (with_reducible refine Qn fun K E hK hE => ?_)
          (try simp only [List.toList_toArray]); refine QT 5 (fun K1 hK1 => ?_); simp -implicitDefEqProofs only [Qf, Qb, Qi, OpW, aop, AS.ev, Qc, Qm, ↓reduceIte, Nat.reduceLT, Nat.reduceEqDiff, aBin, aLen, Option.map_some, List.take_succ_cons, List.take_zero, Q6, goInt, decide_false, un27, t0, t1, w0, QF]; refine hK1 _ ?_; clear hK1
          (try simp only [List.drop_succ_cons, List.drop_zero]); refine QT 8 (fun K1 hK1 => ?_); simp -implicitDefEqProofs only [Qf, Qb, Qi, OpW, aop, AS.ev, Qc, Qq, Qm, ↓reduceIte, Nat.reduceLT, Nat.reduceEqDiff, Nat.zero_add, Nat.add_zero, Ql, QI, QJ, aBin, aLen, QX, hget, List.getElem?_cons_zero, List.getElem?_cons_succ, Option.map_some, Option.bind_some, List.getElem?_toArray, List.take_succ_cons, List.take_zero, Xj, goInt, beq_self_eq_true, ti9, ti22, un22, XX, XY, QF, Rl.cells, hsl, Y4, hq, hw2, hw3]; refine hK1 _ ?_; clear hK1
          (try simp only [List.drop_succ_cons, List.drop_zero]); refine QT 8 (fun K1 hK1 => ?_); simp -implicitDefEqProofs only [Qf, Qb, Qi, OpW, aop, AS.ev, Qc, Qm, ↓reduceIte, Nat.reduceLT, Nat.reduceEqDiff, Nat.zero_add, Ql, QI, QJ, aBin, aLen, QX, hget, List.getElem?_cons_zero, List.getElem?_cons_succ, Option.map_some, Option.bind_some, List.getElem?_toArray, List.take_succ_cons, List.take_zero, Q6, Xj, goInt, decide_false, beq_self_eq_true, Bool.false_eq_true, ti22, un22, X1, t1, QF, Rl.cells, hw4, d0']; refine hK1 _ ?_; clear hK1
          (try simp only [List.drop_succ_cons, List.drop_zero]); refine QT 6 (fun K1 hK1 => ?_); simp -implicitDefEqProofs only [Qb, Qi, OpW, aop, AS.ev, Qc, Qm, ↓reduceIte, Nat.reduceLT, Nat.reduceEqDiff, Nat.zero_add, Ql, QI, QJ, QX, hget, List.getElem?_cons_zero, List.getElem?_cons_succ, Option.map_some, Option.bind_some, List.getElem?_toArray, List.map_cons, List.map_nil, List.take_succ_cons, List.take_zero, beq_self_eq_true, ti22, XY, t1, Rl.cells]; (repeat ((((with_reducible refine Qy c1 ?_)); simp -implicitDefEqProofs only [Qf, Qb, Qi, OpW, QW, aop, AS.ev, Qc, Qm, ↓reduceIte, Nat.reduceLT, Nat.reduceEqDiff, Bool.false_eq_true]))); refine hK1 _ ?_; clear hK1
          (try simp only [List.drop_succ_cons, List.drop_zero]); refine QT 6 (fun K1 hK1 => ?_); simp -implicitDefEqProofs only [Qf, Qb, Qi, OpW, aop, undef, AS.ev, Qc, Qz, Qm, Bool.not_true, ↓reduceIte, Nat.reduceLT, Nat.reduceEqDiff, List.getElem?_cons_zero, List.getElem?_cons_succ, Option.bind_some, List.getElem?_toArray, List.take_succ_cons, List.take_zero, beq_false]; (repeat ((((with_reducible refine Qa fun K E hK hE => ?_)); simp -implicitDefEqProofs only [Qf, Qb, Qi, OpW, QW, aop, undef, Zh, List.isEmpty_nil, List.isEmpty_cons, Qab, YQ, Zn, AS.ev, Qc, QV, Qq, Qz, QM, Xo, Zr, XB, XO, Xs, Zk, Qm, QC, List.getD_cons_zero, List.getD_cons_succ, AV.Qj3, Qr, Q3, Xp, Yv, Xd, Yo, YO, YW, Yk, QD, Xt, XT, Yn, Yi, Yl, YU, YT, Yu, List.all_cons, List.all_nil, QB, X7, Qw, QN, Yp, Q9, Xy, Xr, QH, Yq, Xh, Yt, YR, YS, Ym, Bool.and_self, Bool.and_true, Bool.true_and, Bool.not_true, Bool.not_false, ↓reduceIte, List.length_cons, List.length_nil, Nat.reduceAdd, Nat.reduceLT, Nat.reduceLeDiff, Nat.reduceEqDiff, Nat.reduceSub, Nat.reduceMul, Nat.zero_add, Nat.add_zero, true_and, and_true, and_self, XN, XF, Ql, QI, QJ, Xb, QZ, QL, aBin, aLen, QX, hget, X0, hset, hlen, happ, List.getElem?_cons_zero, List.getElem?_cons_succ, List.getElem?_nil, List.set_cons_zero, List.set_cons_succ, Option.map_some, Option.map_none, Option.bind_some, Option.bind_none, Option.some.injEq, List.toList_toArray, List.getElem?_toArray, List.map_cons, List.map_nil, List.cons_append, List.nil_append, List.append_nil, List.take_succ_cons, List.take_zero, List.drop_succ_cons, List.drop_zero, QY, Q6, Xj, Qal, QaI, goInt, decide_true, decide_false, beq_self_eq_true, bne_self_eq_false, Int.toNat_natCast, Int.toNat_zero, Int.toNat_one, Int.natCast_nonneg, Int.ofNat_lt, Int.ofNat_le, Int.natCast_zero, Bool.false_eq_true, Bool.true_eq_false, beq_true, beq_false, rng0, rng1, rng2, rng3, rng4, rng5, rng6, rng7, rng8, Xa, Nat.reducePow, Nat.zero_le, Nat.zero_mul, T.Qj2, T.Qj4, QG, Xe, ti0, zi0, ti3, zi3, un3, ti4, zi4, un4, ti9, ei9, zi9, un9, ti22, ei22, ai22, zi22, un22, ti23, ei23, ai23, zi23, un23, ti25, XX, XY, X1, X5, X9, ZT, zi25, sp25, ti27, ei27, ai27, zi27, un27, ti53, XR, YZ, Yg, zi53, sp53, ti66, ZB, Zi, zi66, sp66, Int.le_refl, Int.sub_zero, Qaf, Q0, t0, t1, t5, w0, QF, Rl.cells, Rl.isAgg, hsl, Y4, hq, hw2, hw3, hw4, d0']))); refine hK1 _ ?_; clear hK1
          (try simp only [List.drop_succ_cons, List.drop_zero]); refine QT 6 (fun K1 hK1 => ?_); simp -implicitDefEqProofs only [Qf, Qb, Qi, OpW, aop, undef, AS.ev, Qc, Qz, Qm, Bool.not_true, ↓reduceIte, Nat.reduceLT, Nat.reduceEqDiff, List.getElem?_cons_zero, List.getElem?_cons_succ, Option.bind_some, List.getElem?_toArray, List.take_succ_cons, List.take_zero, beq_false]; (repeat ((((with_reducible refine Qa fun K E hK hE => ?_)); simp -implicitDefEqProofs only [Qf, Qb, Qi, OpW, QW, aop, undef, Zh, List.isEmpty_nil, List.isEmpty_cons, Qab, YQ, Zn, AS.ev, Qc, QV, Qq, Qz, QM, Xo, Zr, XB, XO, Xs, Zk, Qm, QC, List.getD_cons_zero, List.getD_cons_succ, AV.Qj3, Qr, Q3, Xp, Yv, Xd, Yo, YO, YW, Yk, QD, Xt, XT, Yn, Yi, Yl, YU, YT, Yu, List.all_cons, List.all_nil, QB, X7, Qw, QN, Yp, Q9, Xy, Xr, QH, Yq, Xh, Yt, YR, YS, Ym, Bool.and_self, Bool.and_true, Bool.true_and, Bool.not_true, Bool.not_false, ↓reduceIte, List.length_cons, List.length_nil, Nat.reduceAdd, Nat.reduceLT, Nat.reduceLeDiff, Nat.reduceEqDiff, Nat.reduceSub, Nat.reduceMul, Nat.zero_add, Nat.add_zero, true_and, and_true, and_self, XN, XF, Ql, QI, QJ, Xb, QZ, QL, aBin, aLen, QX, hget, X0, hset, hlen, happ, List.getElem?_cons_zero, List.getElem?_cons_succ, List.getElem?_nil, List.set_cons_zero, List.set_cons_succ, Option.map_some, Option.map_none, Option.bind_some, Option.bind_none, Option.some.injEq, List.toList_toArray, List.getElem?_toArray, List.map_cons, List.map_nil, List.cons_append, List.nil_append, List.append_nil, List.take_succ_cons, List.take_zero, List.drop_succ_cons, List.drop_zero, QY, Q6, Xj, Qal, QaI, goInt, decide_true, decide_false, beq_self_eq_true, bne_self_eq_false, Int.toNat_natCast, Int.toNat_zero, Int.toNat_one, Int.natCast_nonneg, Int.ofNat_lt, Int.ofNat_le, Int.natCast_zero, Bool.false_eq_true, Bool.true_eq_false, beq_true, beq_false, rng0, rng1, rng2, rng3, rng4, rng5, rng6, rng7, rng8, Xa, Nat.reducePow, Nat.zero_le, Nat.zero_mul, T.Qj2, T.Qj4, QG, Xe, ti0, zi0, ti3, zi3, un3, ti4, zi4, un4, ti9, ei9, zi9, un9, ti22, ei22, ai22, zi22, un22, ti23, ei23, ai23, zi23, un23, ti25, XX, XY, X1, X5, X9, ZT, zi25, sp25, ti27, ei27, ai27, zi27, un27, ti53, XR, YZ, Yg, zi53, sp53, ti66, ZB, Zi, zi66, sp66, Int.le_refl, Int.sub_zero, Qaf, Q0, t0, t1, t5, w0, QF, Rl.cells, Rl.isAgg, hsl, Y4, hq, hw2, hw3, hw4, d0']))); refine hK1 _ ?_; clear hK1
          (try simp only [List.drop_succ_cons, List.drop_zero])
          simp -implicitDefEqProofs only [Qf, Qb, Qi, OpW, aop, undef, AS.ev, Qc, Qz, Qm, Bool.not_true, ↓reduceIte, Nat.reduceLT, Nat.reduceEqDiff, List.getElem?_cons_zero, List.getElem?_cons_succ, Option.bind_some, List.getElem?_toArray, beq_false]
          repeat (first | (with_reducible refine Qe ?_) | ((with_reducible refine hK _ ?_); clear hK))
          rw [R]
          exact ⟨rfl, t0, t1, t5, _, rfl⟩
        obtain ⟨b2, w2⟩ : ∃ b, b = decide (XS r.remove 300 < 0) := ⟨_, rfl⟩
        rw [← w2] at c2
        cases b2
        rotate_left
        · have R : Y5 r = true := by rw [key2 d0', ← w1, ← w2]; rfl
          (with_reducible refine Qn fun K E hK hE => ?_)
          (try simp only [List.toList_toArray]); refine QT 5 (fun K1 hK1 => ?_); simp -implicitDefEqProofs only [Qf, Qb, Qi, OpW, aop, AS.ev, Qc, Qm, ↓reduceIte, Nat.reduceLT, Nat.reduceEqDiff, aBin, aLen, Option.map_some, List.take_succ_cons, List.take_zero, Q6, goInt, decide_false, un27, t0, t1, w0, QF]; refine hK1 _ ?_; clear hK1
          (try simp only [List.drop_succ_cons, List.drop_zero]); refine QT 8 (fun K1 hK1 => ?_); simp -implicitDefEqProofs only [Qf, Qb, Qi, OpW, aop, AS.ev, Qc, Qq, Qm, ↓reduceIte, Nat.reduceLT, Nat.reduceEqDiff, Nat.zero_add, Nat.add_zero, Ql, QI, QJ, aBin, aLen, QX, hget, List.getElem?_cons_zero, List.getElem?_cons_succ, Option.map_some, Option.bind_some, List.getElem?_toArray, List.take_succ_cons, List.take_zero, Xj, goInt, beq_self_eq_true, ti9, ti22, un22, XX, XY, QF, Rl.cells, hsl, Y4, hq, hw2, hw3]; refine hK1 _ ?_; clear hK1
          (try simp only [List.drop_succ_cons, List.drop_zero]); refine QT 8 (fun K1 hK1 => ?_); simp -implicitDefEqProofs only [Qf, Qb, Qi, OpW, aop, AS.ev, Qc, Qm, ↓reduceIte, Nat.reduceLT, Nat.reduceEqDiff, Nat.zero_add, Ql, QI, QJ, aBin, aLen, QX, hget, List.getElem?_cons_zero, List.getElem?_cons_succ, Option.map_some, Option.bind_some, List.getElem?_toArray, List.take_succ_cons, List.take_zero, Q6, Xj, goInt, decide_false, beq_self_eq_true, Bool.false_eq_true, ti22, un22, X1, t1, QF, Rl.cells, hw4, d0']; refine hK1 _ ?_; clear hK1
          (try simp only [List.drop_succ_cons, List.drop_zero]); refine QT 6 (fun K1 hK1 => ?_); simp -implicitDefEqProofs only [Qb, Qi, OpW, aop, AS.ev, Qc, Qm, ↓reduceIte, Nat.reduceLT, Nat.reduceEqDiff, Nat.zero_add, Ql, QI, QJ, QX, hget, List.getElem?_cons_zero, List.getElem?_cons_succ, Option.map_some, Option.bind_some, List.getElem?_toArray, List.map_cons, List.map_nil, List.take_succ_cons, List.take_zero, beq_self_eq_true, ti22, XY, t1, Rl.cells]; (repeat ((((with_reducible refine Qy c1 ?_)); simp -implicitDefEqProofs only [Qf, Qb, Qi, OpW, QW, aop, AS.ev, Qc, Qm, ↓reduceIte, Nat.reduceLT, Nat.reduceEqDiff, Bool.false_eq_true]))); refine hK1 _ ?_; clear hK1
          (try simp only [List.drop_succ_cons, List.drop_zero]); refine QT 6 (fun K1 hK1 => ?_); simp -implicitDefEqProofs only [Qb, Qi, OpW, aop, AS.ev, Qc, Qm, ↓reduceIte, Nat.reduceLT, Nat.reduceEqDiff, Nat.zero_add, Ql, QI, QJ, QX, hget, List.getElem?_cons_zero, List.getElem?_cons_succ, Option.map_some, Option.bind_some, List.getElem?_toArray, List.map_cons, List.map_nil, List.take_succ_cons, List.take_zero, beq_self_eq_true, ti22, X1, t1, Rl.cells]; (repeat ((((with_reducible refine Qy c2 ?_)); simp -implicitDefEqProofs only [Qf, Qb, Qi, OpW, QW, aop, AS.ev, Qc, Qm, ↓reduceIte, Nat.reduceLT, Nat.reduceEqDiff, Bool.false_eq_true]))); refine hK1 _ ?_; clear hK1
          (try simp only [List.drop_succ_cons, List.drop_zero]); refine QT 6 (fun K1 hK1 => ?_); simp -implicitDefEqProofs only [Qf, Qb, Qi, OpW, aop, undef, AS.ev, Qc, Qz, Qm, Bool.not_true, ↓reduceIte, Nat.reduceLT, Nat.reduceEqDiff, List.getElem?_cons_zero, List.getElem?_cons_succ, Option.bind_some, List.getElem?_toArray, List.take_succ_cons, List.take_zero, beq_false]; (repeat ((((with_reducible refine Qa fun K E hK hE => ?_)); simp -implicitDefEqProofs only [Qf, Qb, Qi, OpW, QW, aop, undef, Zh, List.isEmpty_nil, List.isEmpty_cons, Qab, YQ, Zn, AS.ev, Qc, QV, Qq, Qz, QM, Xo, Zr, XB, XO, Xs, Zk, Qm, QC, List.getD_cons_zero, List.getD_cons_succ, AV.Qj3, Qr, Q3, Xp, Yv, Xd, Yo, YO, YW, Yk, QD, Xt, XT, Yn, Yi, Yl, YU, YT, Yu, List.all_cons, List.all_nil, QB, X7, Qw, QN, Yp, Q9, Xy, Xr, QH, Yq, Xh, Yt, YR, YS, Ym, Bool.and_self, Bool.and_true, Bool.true_and, Bool.not_true, Bool.not_false, ↓reduceIte, List.length_cons, List.length_nil, Nat.reduceAdd, Nat.reduceLT, Nat.reduceLeDiff, Nat.reduceEqDiff, Nat.reduceSub, Nat.reduceMul, Nat.zero_add, Nat.add_zero, true_and, and_true, and_self, XN, XF, Ql, QI, QJ, Xb, QZ, QL, aBin, aLen, QX, hget, X0, hset, hlen, happ, List.getElem?_cons_zero, List.getElem?_cons_succ, List.getElem?_nil, List.set_cons_zero, List.set_cons_succ, Option.map_some, Option.map_none, Option.bind_some, Option.bind_none, Option.some.injEq, List.toList_toArray, List.getElem?_toArray, List.map_cons, List.map_nil, List.cons_append, List.nil_append, List.append_nil, List.take_succ_cons, List.take_zero, List.drop_succ_cons, List.drop_zero, QY, Q6, Xj, Qal, QaI, goInt, decide_true, decide_false, beq_self_eq_true, bne_self_eq_false, Int.toNat_natCast, Int.toNat_zero, Int.toNat_one, Int.natCast_nonneg, Int.ofNat_lt, Int.ofNat_le, Int.natCast_zero, Bool.false_eq_true, Bool.true_eq_false, beq_true, beq_false, rng0, rng1, rng2, rng3, rng4, rng5, rng6, rng7, rng8, Xa, Nat.reducePow, Nat.zero_le, Nat.zero_mul, T.Qj2, T.Qj4, QG, Xe, ti0, zi0, ti3, zi3, un3, ti4, zi4, un4, ti9, ei9, zi9, un9, ti22, ei22, ai22, zi22, un22, ti23, ei23, ai23, zi23, un23, ti25, XX, XY, X1, X5, X9, ZT, zi25, sp25, ti27, ei27, ai27, zi27, un27, ti53, XR, YZ, Yg, zi53, sp53, ti66, ZB, Zi, zi66, sp66, Int.le_refl, Int.sub_zero, Qaf, Q0, t0, t1, t5, w0, QF, Rl.cells, Rl.isAgg, hsl, Y4, hq, hw2, hw3, hw4, d0']))); refine hK1 _ ?_; clear hK1
          (try simp only [List.drop_succ_cons, List.drop_zero])
          simp -implicitDefEqProofs only [Qf, Qb, Qi, OpW, aop, undef, AS.ev, Qc, Qz, Qm, Bool.not_true, ↓reduceIte, Nat.reduceLT, Nat.reduceEqDiff, List.getElem?_cons_zero, List.getElem?_cons_succ, Option.bind_some, List.getElem?_toArray, beq_false]
          repeat (first | (with_reducible refine Qe ?_) | ((with_reducible refine hK _ ?_); clear hK))
          rw [R]
          exact ⟨rfl, t0, t1, t5, _, rfl⟩
        obtain ⟨b3, w3⟩ : ∃ b, b = decide (XS r.guard 300 < 0) := ⟨_, rfl⟩
        rw [← w3] at c3
        cases b3
        rotate_left
        · have R : Y5 r = true := by rw [key2 d0', ← w1, ← w2, ← w3]; rfl
          (with_reducible refine Qn fun K E hK hE => ?_)
          (try simp only [List.toList_toArray]); refine QT 5 (fun K1 hK1 => ?_); simp -implicitDefEqProofs only [Qf, Qb, Qi, OpW, aop, AS.ev, Qc, Qm, ↓reduceIte, Nat.reduceLT, Nat.reduceEqDiff, aBin, aLen, Option.map_some, List.take_succ_cons, List.take_zero, Q6, goInt, decide_false, un27, t0, t1, w0, QF]; refine hK1 _ ?_; clear hK1
          (try simp only [List.drop_succ_cons, List.drop_zero]); refine QT 8 (fun K1 hK1 => ?_); simp -implicitDefEqProofs only [Qf, Qb, Qi, OpW, aop, AS.ev, Qc, Qq, Qm, ↓reduceIte, Nat.reduceLT, Nat.reduceEqDiff, Nat.zero_add, Nat.add_zero, Ql, QI, QJ, aBin, aLen, QX, hget, List.getElem?_cons_zero, List.getElem?_cons_succ, Option.map_some, Option.bind_some, List.getElem?_toArray, List.take_succ_cons, List.take_zero, Xj, goInt, beq_self_eq_true, ti9, ti22, un22, XX, XY, QF, Rl.cells, hsl, Y4, hq, hw2, hw3]; refine hK1 _ ?_; clear hK1
          (try simp only [List.drop_succ_cons, List.drop_zero]); refine QT 8 (fun K1 hK1 => ?_); simp -implicitDefEqProofs only [Qf, Qb, Qi, OpW, aop, AS.ev, Qc, Qm, ↓reduceIte, Nat.reduceLT, Nat.reduceEqDiff, Nat.zero_add, Ql, QI, QJ, aBin, aLen, QX, hget, List.getElem?_cons_zero, List.getElem?_cons_succ, Option.map_some, Option.bind_some, List.getElem?_toArray, List.take_succ_cons, List.take_zero, Q6, Xj, goInt, decide_false, beq_self_eq_true, Bool.false_eq_true, ti22, un22, X1, t1, QF, Rl.cells, hw4, d0']; refine hK1 _ ?_; clear hK1
          (try simp only [List.drop_succ_cons, List.drop_zero]); refine QT 6 (fun K1 hK1 => ?_); simp -implicitDefEqProofs only [Qb, Qi, OpW, aop, AS.ev, Qc, Qm, ↓reduceIte, Nat.reduceLT, Nat.reduceEqDiff, Nat.zero_add, Ql, QI, QJ, QX, hget, List.getElem?_cons_zero, List.getElem?_cons_succ, Option.map_some, Option.bind_some, List.getElem?_toArray, List.map_cons, List.map_nil, List.take_succ_cons, List.take_zero, beq_self_eq_true, ti22, XY, t1, Rl.cells]; (repeat ((((with_reducible refine Qy c1 ?_)); simp -implicitDefEqProofs only [Qf, Qb, Qi, OpW, QW, aop, AS.ev, Qc, Qm, ↓reduceIte, Nat.reduceLT, Nat.reduceEqDiff, Bool.false_eq_true]))); refine hK1 _ ?_; clear hK1
          (try simp only [List.drop_succ_cons, List.drop_zero]); refine QT 6 (fun K1 hK1 => ?_); simp -implicitDefEqProofs only [Qb, Qi, OpW, aop, AS.ev, Qc, Qm, ↓reduceIte, Nat.reduceLT, Nat.reduceEqDiff, Nat.zero_add, Ql, QI, QJ, QX, hget, List.getElem?_cons_zero, List.getElem?_cons_succ, Option.map_some, Option.bind_some, List.getElem?_toArray, List.map_cons, List.map_nil, List.take_succ_cons, List.take_zero, beq_self_eq_true, ti22, X1, t1, Rl.cells]; (repeat ((((with_reducible refine Qy c2 ?_)); simp -implicitDefEqProofs only [Qf, Qb, Qi, OpW, QW, aop, AS.ev, Qc, Qm, ↓reduceIte, Nat.reduceLT, Nat.reduceEqDiff, Bool.false_eq_true]))); refine hK1 _ ?_; clear hK1
          (try simp only [List.drop_succ_cons, List.drop_zero]); refine QT 6 (fun K1 hK1 => ?_); simp -implicitDefEqProofs only [Qb, Qi, OpW, aop, AS.ev, Qc, Qm, ↓reduceIte, Nat.reduceLT, Nat.reduceEqDiff, Nat.zero_add, Ql, QI, QJ, QX, hget, List.getElem?_cons_zero, List.getElem?_cons_succ, Option.map_some, Option.bind_some, List.getElem?_toArray, List.map_cons, List.map_nil, List.take_succ_cons, List.take_zero, beq_self_eq_true, ti23, X5, t1, Rl.cells]; (repeat ((((with_reducible refine Qy c3 ?_)); simp -implicitDefEqProofs only [Qf, Qb, Qi, OpW, QW, aop, AS.ev, Qc, Qm, ↓reduceIte, Nat.reduceLT, Nat.reduceEqDiff, Bool.false_eq_true]))); refine hK1 _ ?_; clear hK1
          (try simp only [List.drop_succ_cons, List.drop_zero])
          simp -implicitDefEqProofs only [Qf, Qb, Qi, OpW, aop, undef, AS.ev, Qc, Qz, Qm, Bool.not_true, ↓reduceIte, Nat.reduceLT, Nat.reduceEqDiff, List.getElem?_cons_zero, List.getElem?_cons_succ, Option.bind_some, List.getElem?_toArray, beq_false]
          repeat (first | (with_reducible refine Qe ?_) | ((with_reducible refine hK _ ?_); clear hK))
          rw [R]
          exact ⟨rfl, t0, t1, t5, _, rfl⟩
        obtain ⟨b4, w4⟩ : ∃ b, b = decide (XS r.body 300 < 0) := ⟨_, rfl⟩
        rw [← w4] at c4
        cases b4
        rotate_left
        · have R : Y5 r = true := by rw [key2 d0', ← w1, ← w2, ← w3, ← w4]; rfl
          (with_reducible refine Qn fun K E hK hE => ?_)
          (try simp only [List.toList_toArray]); refine QT 5 (fun K1 hK1 => ?_); simp -implicitDefEqProofs only [Qf, Qb, Qi, OpW, aop, AS.ev, Qc, Qm, ↓reduceIte, Nat.reduceLT, Nat.reduceEqDiff, aBin, aLen, Option.map_some, List.take_succ_cons, List.take_zero, Q6, goInt, decide_false, un27, t0, t1, w0, QF]; refine hK1 _ ?_; clear hK1
          (try simp only [List.drop_succ_cons, List.drop_zero]); refine QT 8 (fun K1 hK1 => ?_); simp -implicitDefEqProofs only [Qf, Qb, Qi, OpW, aop, AS.ev, Qc, Qq, Qm, ↓reduceIte, Nat.reduceLT, Nat.reduceEqDiff, Nat.zero_add, Nat.add_zero, Ql, QI, QJ, aBin, aLen, QX, hget, List.getElem?_cons_zero, List.getElem?_cons_succ, Option.map_some, Option.bind_some, List.getElem?_toArray, List.take_succ_cons, List.take_zero, Xj, goInt, beq_self_eq_true, ti9, ti22, un22, XX, XY, QF, Rl.cells, hsl, Y4, hq, hw2, hw3]; refine hK1 _ ?_; clear hK1
          (try simp only [List.drop_succ_cons, List.drop_zero]); refine QT 8 (fun K1 hK1 => ?_); simp -implicitDefEqProofs only [Qf, Qb, Qi, OpW, aop, AS.ev, Qc, Qm, ↓reduceIte, Nat.reduceLT, Nat.reduceEqDiff, Nat.zero_add, Ql, QI, QJ, aBin, aLen, QX, hget, List.getElem?_cons_zero, List.getElem?_cons_succ, Option.map_some, Option.bind_some, List.getElem?_toArray, List.take_succ_cons, List.take_zero, Q6, Xj, goInt, decide_false, beq_self_eq_true, Bool.false_eq_true, ti22, un22, X1, t1, QF, Rl.cells, hw4, d0']; refine hK1 _ ?_; clear hK1
          (try simp only [List.drop_succ_cons, List.drop_zero]); refine QT 6 (fun K1 hK1 => ?_); simp -implicitDefEqProofs only [Qb, Qi, OpW, aop, AS.ev, Qc, Qm, ↓reduceIte, Nat.reduceLT, Nat.reduceEqDiff, Nat.zero_add, Ql, QI, QJ, QX, hget, List.getElem?_cons_zero, List.getElem?_cons_succ, Option.map_some, Option.bind_some, List.getElem?_toArray, List.map_cons, List.map_nil, List.take_succ_cons, List.take_zero, beq_self_eq_true, ti22, XY, t1, Rl.cells]; (repeat ((((with_reducible refine Qy c1 ?_)); simp -implicitDefEqProofs only [Qf, Qb, Qi, OpW, QW, aop, AS.ev, Qc, Qm, ↓reduceIte, Nat.reduceLT, Nat.reduceEqDiff, Bool.false_eq_true]))); refine hK1 _ ?_; clear hK1
          (try simp only [List.drop_succ_cons, List.drop_zero]); refine QT 6 (fun K1 hK1 => ?_); simp -implicitDefEqProofs only [Qb, Qi, OpW, aop, AS.ev, Qc, Qm, ↓reduceIte, Nat.reduceLT, Nat.reduceEqDiff, Nat.zero_add, Ql, QI, QJ, QX, hget, List.getElem?_cons_zero, List.getElem?_cons_succ, Option.map_some, Option.bind_some, List.getElem?_toArray, List.map_cons, List.map_nil, List.take_succ_cons, List.take_zero, beq_self_eq_true, ti22, X1, t1, Rl.cells]; (repeat ((((with_reducible refine Qy c2 ?_)); simp -implicitDefEqProofs only [Qf, Qb, Qi, OpW, QW, aop, AS.ev, Qc, Qm, ↓reduceIte, Nat.reduceLT, Nat.reduceEqDiff, Bool.false_eq_true]))); refine hK1 _ ?_; clear hK1
          (try simp only [List.drop_succ_cons, List.drop_zero]); refine QT 6 (fun K1 hK1 => ?_); simp -implicitDefEqProofs only [Qb, Qi, OpW, aop, AS.ev, Qc, Qm, ↓reduceIte, Nat.reduceLT, Nat.reduceEqDiff, Nat.zero_add, Ql, QI, QJ, QX, hget, List.getElem?_cons_zero, List.getElem?_cons_succ, Option.map_some, Option.bind_some, List.getElem?_toArray, List.map_cons, List.map_nil, List.take_succ_cons, List.take_zero, beq_self_eq_true, ti23, X5, t1, Rl.cells]; (repeat ((((with_reducible refine Qy c3 ?_)); simp -implicitDefEqProofs only [Qf, Qb, Qi, OpW, QW, aop, AS.ev, Qc, Qm, ↓reduceIte, Nat.reduceLT, Nat.reduceEqDiff, Bool.false_eq_true]))); refine hK1 _ ?_; clear hK1
          (try simp only [List.drop_succ_cons, List.drop_zero])
          simp -implicitDefEqProofs only [Qb, Qi, OpW, aop, AS.ev, Qc, Qm, ↓reduceIte, Nat.reduceLT, Nat.reduceEqDiff, Nat.zero_add, Ql, QI, QJ, QX, hget, List.getElem?_cons_zero, List.getElem?_cons_succ, Option.map_some, Option.bind_some, List.getElem?_toArray, List.map_cons, List.map_nil, beq_self_eq_true, ti23, X9, t1, Rl.cells]
          repeat (first | (((with_reducible refine Qy c4 ?_)); simp -implicitDefEqProofs only [Qf, Qb, Qi, OpW, QW, aop, AS.ev, Qc, Qm, ↓reduceIte, Nat.reduceLT, Nat.reduceEqDiff, Bool.false_eq_true]) | (with_reducible refine Qe ?_) | ((with_reducible refine hK _ ?_); clear hK))
          rw [R]
          exact ⟨rfl, t0, t1, t5, _, rfl⟩
        have R : Y5 r = false := by rw [key2 d0', ← w1, ← w2, ← w3, ← w4]; rfl
        (with_reducible refine Qn fun K E hK hE => ?_)
        (try simp only [List.toList_toArray]); refine QT 5 (fun K1 hK1 => ?_); simp -implicitDefEqProofs only [Qf, Qb, Qi, OpW, aop, AS.ev, Qc, Qm, ↓reduceIte, Nat.reduceLT, Nat.reduceEqDiff, aBin, aLen, Option.map_some, List.take_succ_cons, List.take_zero, Q6, goInt, decide_false, un27, t0, t1, w0, QF]; refine hK1 _ ?_; clear hK1
        (try simp only [List.drop_succ_cons, List.drop_zero]); refine QT 8 (fun K1 hK1 => ?_); simp -implicitDefEqProofs only [Qf, Qb, Qi, OpW, aop, AS.ev, Qc, Qq, Qm, ↓reduceIte, Nat.reduceLT, Nat.reduceEqDiff, Nat.zero_add, Nat.add_zero, Ql, QI, QJ, aBin, aLen, QX, hget, List.getElem?_cons_zero, List.getElem?_cons_succ, Option.map_some, Option.bind_some, List.getElem?_toArray, List.take_succ_cons, List.take_zero, Xj, goInt, beq_self_eq_true, ti9, ti22, un22, XX, XY, QF, Rl.cells, hsl, Y4, hq, hw2, hw3]; refine hK1 _ ?_; clear hK1
        (try simp only [List.drop_succ_cons, List.drop_zero]); refine QT 8 (fun K1 hK1 => ?_); simp -implicitDefEqProofs only [Qf, Qb, Qi, OpW, aop, AS.ev, Qc, Qm, ↓reduceIte, Nat.reduceLT, Nat.reduceEqDiff, Nat.zero_add, Ql, QI, QJ, aBin, aLen, QX, hget, List.getElem?_cons_zero, List.getElem?_cons_succ, Option.map_some, Option.bind_some, List.getElem?_toArray, List.take_succ_cons, List.take_zero, Q6, Xj, goInt, decide_false, beq_self_eq_true, Bool.false_eq_true, ti22, un22, X1, t1, QF, Rl.cells, hw4, d0']; refine hK1 _ ?_; clear hK1
        (try simp only [List.drop_succ_cons, List.drop_zero]); refine QT 6 (fun K1 hK1 => ?_); simp -implicitDefEqProofs only [Qb, Qi, OpW, aop, AS.ev, Qc, Qm, ↓reduceIte, Nat.reduceLT, Nat.reduceEqDiff, Nat.zero_add, Ql, QI, QJ, QX, hget, List.getElem?_cons_zero, List.getElem?_cons_succ, Option.map_some, Option.bind_some, List.getElem?_toArray, List.map_cons, List.map_nil, List.take_succ_cons, List.take_zero, beq_self_eq_true, ti22, XY, t1, Rl.cells]; (repeat ((((with_reducible refine Qy c1 ?_)); simp -implicitDefEqProofs only [Qf, Qb, Qi, OpW, QW, aop, AS.ev, Qc, Qm, ↓reduceIte, Nat.reduceLT, Nat.reduceEqDiff, Bool.false_eq_true]))); refine hK1 _ ?_; clear hK1
        (try simp only [List.drop_succ_cons, List.drop_zero]); refine QT 6 (fun K1 hK1 => ?_); simp -implicitDefEqProofs only [Qb, Qi, OpW, aop, AS.ev, Qc, Qm, ↓reduceIte, Nat.reduceLT, Nat.reduceEqDiff, Nat.zero_add, Ql, QI, QJ, QX, hget, List.getElem?_cons_zero, List.getElem?_cons_succ, Option.map_some, Option.bind_some, List.getElem?_toArray, List.map_cons, List.map_nil, List.take_succ_cons, List.take_zero, beq_self_eq_true, ti22, X1, t1, Rl.cells]; (repeat ((((with_reducible refine Qy c2 ?_)); simp -implicitDefEqProofs only [Qf, Qb, Qi, OpW, QW, aop, AS.ev, Qc, Qm, ↓reduceIte, Nat.reduceLT, Nat.reduceEqDiff, Bool.false_eq_true]))); refine hK1 _ ?_; clear hK1
        (try simp only [List.drop_succ_cons, List.drop_zero]); refine QT 6 (fun K1 hK1 => ?_); simp -implicitDefEqProofs only [Qb, Qi, OpW, aop, AS.ev, Qc, Qm, ↓reduceIte, Nat.reduceLT, Nat.reduceEqDiff, Nat.zero_add, Ql, QI, QJ, QX, hget, List.getElem?_cons_zero, List.getElem?_cons_succ, Option.map_some, Option.bind_some, List.getElem?_toArray, List.map_cons, List.map_nil, List.take_succ_cons, List.take_zero, beq_self_eq_true, ti23, X5, t1, Rl.cells]; (repeat ((((with_reducible refine Qy c3 ?_)); simp -implicitDefEqProofs only [Qf, Qb, Qi, OpW, QW, aop, AS.ev, Qc, Qm, ↓reduceIte, Nat.reduceLT, Nat.reduceEqDiff, Bool.false_eq_true]))); refine hK1 _ ?_; clear hK1
        (try simp only [List.drop_succ_cons, List.drop_zero])
        simp -implicitDefEqProofs only [Qb, Qi, OpW, aop, AS.ev, Qc, Qm, ↓reduceIte, Nat.reduceLT, Nat.reduceEqDiff, Nat.zero_add, Ql, QI, QJ, QX, hget, List.getElem?_cons_zero, List.getElem?_cons_succ, Option.map_some, Option.bind_some, List.getElem?_toArray, List.map_cons, List.map_nil, beq_self_eq_true, ti23, X9, t1, Rl.cells]
        repeat (first | (((with_reducible refine Qy c4 ?_)); simp -implicitDefEqProofs only [Qf, Qb, Qi, OpW, QW, aop, AS.ev, Qc, Qm, ↓reduceIte, Nat.reduceLT, Nat.reduceEqDiff, Bool.false_eq_true]) | (with_reducible refine Qe ?_) | ((with_reducible refine hK _ ?_); clear hK))
        rw [R]
        exact ⟨rfl, t0, t1, t5, _, rfl⟩
    · have hkn : k = l.length := by omega
      subst hkn
      have z1 : ¬ ((l.length : Nat) : Int) < l.length := by omega
      rw [List.drop_length] at he
      repeat (first | (((with_reducible refine Qa fun K E hK hE => ?_)); simp -implicitDefEqProofs only [Qf, Qb, Qi, OpW, aop, AS.ev, Qc, Qz, Qm, ↓reduceIte, Nat.reduceLT, Nat.reduceEqDiff, aBin, aLen, Option.map_some, QY, goInt, decide_false, un27, t0, t5, z1, QF]) | (with_reducible (first | refine Qh fun K hK => ?_ | refine Qo ?_ | refine Q1 ?_ | refine Qe ?_ | refine QS ?_ | refine QR ?_)) | ((with_reducible refine hK _ ?_); clear hK) | (clear hK; (with_reducible refine hK _ ?_); clear hK) | (refine Qj rfl ?_; simp only [↓reduceIte, Bool.false_eq_true]))
      simp only [QO, Qp, Qv, upd, ↓reduceIte, Option.some.injEq, exists_eq_left']; first | refine Qd (htake _ _) (.keep (.v _)) ⟨by rw [he]; rfl, rfl⟩ | refine Qd List.take_length (.keep (.v _)) ⟨by rw [he]; rfl, rfl⟩
  · rw [hI]
    exact ⟨0, rfl, by omega, rfl, rfl, rfl, rfl, [], (List.append_nil _).symm⟩
def QcY (l : List Rl) : Bool := decide (45 < l.length) || l.any Y5
theorem QfS (l : List Rl) (ho : ∀ r ∈ l, r.ok) (hl : l.length ≤ 9223372036854775807) : Pure Tryz.prog 8 [.sl 6 (vs Rl.av l) none] (.b (QcY l)) := by
  intro h
  by_cases q : 45 < l.length
  · have z : (l.length : Int) > 45 := by omega
    refine Qg Tryz.func8 rfl Tryz.call8 Tryz.ntmps8 (congrArg Array.toList Tryz.results8) (by simp) ?_
    repeat (first | (((with_reducible refine Qa fun K E hK hE => ?_)); simp -implicitDefEqProofs only [Qf, Qb, Qi, OpW, aop, undef, AS.ev, Qc, Qq, Qz, Qm, QC, List.getD_cons_zero, Bool.not_true, ↓reduceIte, Nat.reduceLT, Nat.reduceEqDiff, aBin, aLen, List.getElem?_cons_zero, List.getElem?_cons_succ, Option.map_some, Option.bind_some, List.getElem?_toArray, Q6, goInt, decide_true, beq_false, un27, z, QF]) | (with_reducible refine Qo ?_) | ((with_reducible refine hK _ ?_); clear hK))
    simp only [QO, Qp, Qv, upd, ↓reduceIte, Option.some.injEq, exists_eq_left']; first | refine Qd (htake _ _) (.keep (.v _)) ⟨by rw [QcY, decide_eq_true q]; rfl, rfl⟩ | refine Qd List.take_length (.keep (.v _)) ⟨by rw [QcY, decide_eq_true q]; rfl, rfl⟩
  · have z : ¬ (l.length : Int) > 45 := by omega
    have c := QcT l (by omega) ho
    refine Qg Tryz.func8 rfl Tryz.call8 Tryz.ntmps8 (congrArg Array.toList Tryz.results8) (by simp) ?_
    repeat (first | ((first | (with_reducible (first | refine Qa fun K E hK hE => ?_ | refine Qy c ?_))); simp -implicitDefEqProofs only [Qf, Qb, Qi, OpW, QW, aop, undef, AS.ev, Qc, Qq, Qz, Qm, QC, List.getD_cons_zero, ↓reduceIte, Nat.reduceLT, Nat.reduceEqDiff, aBin, aLen, List.getElem?_cons_zero, List.getElem?_cons_succ, Option.map_some, Option.bind_some, List.getElem?_toArray, List.map_cons, List.map_nil, Q6, goInt, decide_false, beq_self_eq_true, Bool.false_eq_true, un27, z, QF]) | (with_reducible refine Qo ?_) | ((with_reducible refine hK _ ?_); clear hK))
    simp only [QO, Qp, Qv, upd, ↓reduceIte, Option.some.injEq, exists_eq_left']; first | refine Qd (htake _ _) (.keep (.v _)) ⟨by rw [QcY, decide_eq_false q, Bool.false_or], rfl⟩ | refine Qd List.take_length (.keep (.v _)) ⟨by rw [QcY, decide_eq_false q, Bool.false_or], rfl⟩
end Go.Proofs.YtenheconhibonaaGreatDoor.Ab
set_option linter.unusedSimpArgs false
set_option linter.unusedVariables false
set_option maxHeartbeats 4000000
set_option maxRecDepth 4000
namespace Go.Proofs.YtenheconhibonaaGreatDoor.Ab
open Go.Proofs
theorem QeY (n : Int) : cmpI n n = 0 := by simp [cmpI]
theorem Qa4 : ∀ l : List UInt8, Op.bytesLess l l = false
  | [] => rfl
  | a :: l => by simp [Op.bytesLess, Qa4 l]
theorem Qfs (s : ByteArray) : cmpS s s = 0 := by simp [cmpS, Qa4]
mutual
theorem Qio : ∀ t : T, cmpT t t = 0
  | .mk k i n l => by
    have h0 : ((0 : Int) != 0) = false := rfl
    simp only [cmpT, QeY, Qfs, Qbn l, h0, Bool.false_eq_true, ↓reduceIte, or3, orL, ite_self]
theorem Qbn : ∀ l : List T, cmpL l l = 0
  | [] => by simp [cmpL]
  | t :: l => by simp [cmpL, Qio t, Qbn l]
end
def gN : List G → Nat
  | [] => 0
  | p :: l => 1 + ndsL p.args + gN l
theorem Qfd : ∀ {l : List G} {k : Nat} (h : k < l.length), ndsL (l[k]).args ≤ gN l
  | p :: l, 0, _ => by simp only [List.getElem_cons_zero, gN]; omega
  | p :: l, k + 1, h => by
    have := Qfd (l := l) (k := k) (by simpa using h)
    simp only [List.getElem_cons_succ, gN]; omega
theorem QaM : ∀ l : List G, l.length ≤ gN l
  | [] => by simp [gN]
  | p :: l => by
    have := QaM l
    simp only [gN, List.length_cons]; omega
theorem Qce (p : G) (hn : ndsL p.args ≤ 1000000) : Pure Tryz.prog 134 [p.atom, p.atom] (.i 0) := by
  intro h
  have hl := XA p.args
  have c1 := Qgg p.name p.name
  rw [Qfs] at c1
  have c2 := QbV p.args.length p.args.length
  rw [QeY] at c2
  have c3 := QbL 1000000 (ZM 1000000 (Nat.le_refl _)) p.args p.args hn (by omega)
  rw [Qbn] at c3
  have z0 : ((0 : Int) == 0) = true := rfl
  refine Qg Tryz.func134 rfl Tryz.call134 Tryz.ntmps134 (congrArg Array.toList Tryz.results134) (by simp) ?_
  repeat (first | ((first | (with_reducible (first | refine Qa fun K E hK hE => ?_ | refine Qn fun K E hK hE => ?_ | refine Qy c1 ?_ | refine Qy c2 ?_ | refine Qy c3 ?_))); simp -implicitDefEqProofs only [Qf, Qb, Qi, OpW, QW, aop, undef, AS.ev, Qc, Qq, Qm, QC, List.getD_cons_zero, List.getD_cons_succ, AV.Qj3, List.all_cons, List.all_nil, Qw, QH, Bool.and_self, ↓reduceIte, List.length_cons, List.length_nil, Nat.reduceAdd, Nat.reduceLT, Nat.reduceEqDiff, Nat.zero_add, Nat.add_zero, Ql, QI, QJ, aBin, aLen, QX, hget, hlen, happ, List.getElem?_cons_zero, List.getElem?_cons_succ, Option.map_some, List.map_cons, List.map_nil, List.cons_append, List.nil_append, QU, goInt, beq_self_eq_true, QG, ti9, ti44, un44, ZB, Zi, XI]) | (with_reducible (first | refine Qh fun K hK => ?_ | refine Qo ?_ | refine Qe ?_)) | ((with_reducible refine hK _ ?_); clear hK) | (refine Qj rfl ?_; simp only [↓reduceIte]))
  simp only [QO, Qp, Qv, upd, ↓reduceIte, Option.some.injEq, exists_eq_left']; first | refine Qd (htake _ _) (.keep (.v _)) ⟨rfl, rfl⟩ | refine Qd List.take_length (.keep (.v _)) ⟨rfl, rfl⟩
theorem Qeq (p : G) (hn : ndsL p.args ≤ 1000000) : Pure Tryz.prog 95 [p.atom, p.atom] (.b true) := by
  intro h
  have c := Qce p hn
  have z0 : ((0 : Int) == 0) = true := rfl
  refine Qg Tryz.func95 rfl Tryz.call95 Tryz.ntmps95 (congrArg Array.toList Tryz.results95) (by simp) ?_
  repeat (first | ((first | (with_reducible (first | refine Qa fun K E hK hE => ?_ | refine Qy c ?_))); simp -implicitDefEqProofs only [Qf, Qb, Qi, OpW, QW, aop, undef, AS.ev, Qc, Qq, Qz, Qm, QC, List.getD_cons_zero, List.getD_cons_succ, AV.Qj3, List.all_cons, List.all_nil, Qw, QH, Bool.and_self, ↓reduceIte, List.length_cons, List.length_nil, Nat.reduceAdd, Nat.reduceLT, Nat.reduceEqDiff, Nat.zero_add, and_self, QI, QJ, aBin, QX, hget, hlen, happ, List.getElem?_cons_zero, List.getElem?_cons_succ, Option.map_some, List.map_cons, List.map_nil, List.cons_append, List.nil_append, QU, beq_self_eq_true, ti66, XI, Qaa]) | (with_reducible refine Qo ?_) | ((with_reducible refine hK _ ?_); clear hK))
  simp only [QO, Qp, Qv, upd, ↓reduceIte, Option.some.injEq, exists_eq_left']; first | refine Qd (htake _ _) (.keep (.v _)) ⟨rfl, rfl⟩ | refine Qd List.take_length (.keep (.v _)) ⟨rfl, rfl⟩
theorem QdY (p : G) (hn : ndsL p.args ≤ 1000000) : Pure Tryz.prog 70 [p.goal, p.goal] (.b true) := by
  intro h
  have c1 := Qc7 p.args p.args hn
  rw [Qbn] at c1
  have z0 : ((0 : Int) == 0) = true := rfl
  simp only [z0] at c1
  have z1 : (p.op == p.op) = true := by simp
  have z2 : (p.name.toList == p.name.toList) = true := by simp
  have z3 : ((p.args.length : Int) == (p.args.length : Int)) = true := by simp
  refine Qg Tryz.func70 rfl Tryz.call70 Tryz.ntmps70 (congrArg Array.toList Tryz.results70) (by simp) ?_
  (with_reducible refine Qa fun K E hK hE => ?_)
  simp -implicitDefEqProofs only [Qf, Qb, Qi, OpW, aop, undef, AS.ev, Qc, Qz, Qm, QC, List.getD_cons_zero, List.getD_cons_succ, AV.Qj3, List.all_cons, List.all_nil, QB, Qw, QH, Bool.and_self, ↓reduceIte, List.length_cons, List.length_nil, Nat.reduceAdd, Nat.reduceLT, Nat.reduceEqDiff, Nat.zero_add, hlen, happ, List.cons_append, List.nil_append, Q2]
  (with_reducible refine hK _ ?_)
  clear hK
  (with_reducible refine Qa fun K E hK hE => ?_)
  (try simp only [List.toList_toArray]); refine QT 6 (fun K1 hK1 => ?_); simp -implicitDefEqProofs only [Qf, Qb, Qi, OpW, aop, AS.ev, Qc, Qm, ↓reduceIte, Nat.reduceLT, Nat.reduceEqDiff, Nat.add_zero, Ql, QI, QJ, aBin, QX, hget, List.getElem?_cons_zero, List.getElem?_cons_succ, Option.map_some, List.take_succ_cons, List.take_zero, QU, beq_self_eq_true, ti3, XR, Q2]; (repeat ((((with_reducible refine Qa fun K E hK hE => ?_)); simp -implicitDefEqProofs only [Qf, Qb, Qi, OpW, QW, aop, undef, Zh, List.isEmpty_nil, List.isEmpty_cons, Qab, YQ, Zn, AS.ev, Qc, QV, Qq, Qz, QM, Xo, Zr, XB, XO, Xs, Zk, Qm, QC, List.getD_cons_zero, List.getD_cons_succ, AV.Qj3, Qr, Q3, Xp, Yv, Xd, Yo, YO, YW, Yk, QD, Xt, XT, Yn, Yi, Yl, YU, YT, Yu, List.all_cons, List.all_nil, QB, X7, Qw, QN, Yp, Q9, Xy, Xr, QH, Yq, Xh, Yt, YR, YS, Ym, Bool.and_self, Bool.and_true, Bool.true_and, Bool.not_true, Bool.not_false, ↓reduceIte, List.length_cons, List.length_nil, Nat.reduceAdd, Nat.reduceLT, Nat.reduceLeDiff, Nat.reduceEqDiff, Nat.reduceSub, Nat.reduceMul, Nat.zero_add, Nat.add_zero, true_and, and_true, and_self, XN, XF, Ql, QI, QJ, aBin, aLen, QX, hget, X0, hset, hlen, happ, List.getElem?_cons_zero, List.getElem?_cons_succ, List.getElem?_nil, List.set_cons_zero, List.set_cons_succ, Option.map_some, Option.map_none, Option.bind_some, Option.bind_none, Option.some.injEq, List.toList_toArray, List.getElem?_toArray, List.map_cons, List.map_nil, List.cons_append, List.nil_append, List.append_nil, List.take_succ_cons, List.take_zero, List.drop_succ_cons, List.drop_zero, QU, Xm, goInt, decide_true, decide_false, beq_self_eq_true, bne_self_eq_false, Int.toNat_natCast, Int.toNat_zero, Int.toNat_one, Int.natCast_nonneg, Int.ofNat_lt, Int.ofNat_le, Int.natCast_zero, Bool.false_eq_true, Bool.true_eq_false, beq_true, beq_false, rng0, rng1, rng2, rng3, rng4, rng5, rng6, rng7, rng8, Xa, Nat.reducePow, Nat.zero_le, Nat.zero_mul, T.Qj2, T.Qj4, QG, Xe, ti0, zi0, ti3, zi3, un3, ti4, zi4, un4, ti9, ei9, zi9, un9, ti44, ei44, ai44, zi44, un44, ti53, XR, YZ, Yg, zi53, sp53, ti69, Xw, Ya, X6, XL, zi69, sp69, Int.le_refl, Int.sub_zero, Qaf, Q0, Q2, Y6, z1, z2, z3]))); refine hK1 _ ?_; clear hK1
  (try simp only [List.drop_succ_cons, List.drop_zero]); refine QT 6 (fun K1 hK1 => ?_); simp -implicitDefEqProofs only [Qf, Qb, Qi, OpW, aop, AS.ev, Qc, Qm, ↓reduceIte, Nat.reduceLT, Nat.reduceEqDiff, Nat.zero_add, Ql, QI, QJ, aBin, QX, hget, List.getElem?_cons_zero, List.getElem?_cons_succ, Option.map_some, Option.bind_some, List.getElem?_toArray, List.take_succ_cons, List.take_zero, Xm, beq_self_eq_true, ti9, YZ, Q2]; (repeat ((((with_reducible refine Qa fun K E hK hE => ?_)); simp -implicitDefEqProofs only [Qf, Qb, Qi, OpW, QW, aop, undef, Zh, List.isEmpty_nil, List.isEmpty_cons, Qab, YQ, Zn, AS.ev, Qc, QV, Qq, Qz, QM, Xo, Zr, XB, XO, Xs, Zk, Qm, QC, List.getD_cons_zero, List.getD_cons_succ, AV.Qj3, Qr, Q3, Xp, Yv, Xd, Yo, YO, YW, Yk, QD, Xt, XT, Yn, Yi, Yl, YU, YT, Yu, List.all_cons, List.all_nil, QB, X7, Qw, QN, Yp, Q9, Xy, Xr, QH, Yq, Xh, Yt, YR, YS, Ym, Bool.and_self, Bool.and_true, Bool.true_and, Bool.not_true, Bool.not_false, ↓reduceIte, List.length_cons, List.length_nil, Nat.reduceAdd, Nat.reduceLT, Nat.reduceLeDiff, Nat.reduceEqDiff, Nat.reduceSub, Nat.reduceMul, Nat.zero_add, Nat.add_zero, true_and, and_true, and_self, XN, XF, Ql, QI, QJ, aBin, aLen, QX, hget, X0, hset, hlen, happ, List.getElem?_cons_zero, List.getElem?_cons_succ, List.getElem?_nil, List.set_cons_zero, List.set_cons_succ, Option.map_some, Option.map_none, Option.bind_some, Option.bind_none, Option.some.injEq, List.toList_toArray, List.getElem?_toArray, List.map_cons, List.map_nil, List.cons_append, List.nil_append, List.append_nil, List.take_succ_cons, List.take_zero, List.drop_succ_cons, List.drop_zero, QU, Xm, goInt, decide_true, decide_false, beq_self_eq_true, bne_self_eq_false, Int.toNat_natCast, Int.toNat_zero, Int.toNat_one, Int.natCast_nonneg, Int.ofNat_lt, Int.ofNat_le, Int.natCast_zero, Bool.false_eq_true, Bool.true_eq_false, beq_true, beq_false, rng0, rng1, rng2, rng3, rng4, rng5, rng6, rng7, rng8, Xa, Nat.reducePow, Nat.zero_le, Nat.zero_mul, T.Qj2, T.Qj4, QG, Xe, ti0, zi0, ti3, zi3, un3, ti4, zi4, un4, ti9, ei9, zi9, un9, ti44, ei44, ai44, zi44, un44, ti53, XR, YZ, Yg, zi53, sp53, ti69, Xw, Ya, X6, XL, zi69, sp69, Int.le_refl, Int.sub_zero, Qaf, Q0, Q2, Y6, z1, z2, z3]))); refine hK1 _ ?_; clear hK1
  (try simp only [List.drop_succ_cons, List.drop_zero]); refine QT 6 (fun K1 hK1 => ?_); simp -implicitDefEqProofs only [Qf, Qb, Qi, OpW, aop, AS.ev, Qc, Qm, ↓reduceIte, Nat.reduceLT, Nat.reduceEqDiff, Nat.zero_add, Ql, QI, QJ, aLen, QX, hget, List.getElem?_cons_zero, List.getElem?_cons_succ, Option.map_some, Option.bind_some, List.getElem?_toArray, List.take_succ_cons, List.take_zero, goInt, beq_self_eq_true, QG, ti44, un44, Yg, Q2]; (repeat ((((with_reducible refine Qa fun K E hK hE => ?_)); simp -implicitDefEqProofs only [Qf, Qb, Qi, OpW, QW, aop, undef, Zh, List.isEmpty_nil, List.isEmpty_cons, Qab, YQ, Zn, AS.ev, Qc, QV, Qq, Qz, QM, Xo, Zr, XB, XO, Xs, Zk, Qm, QC, List.getD_cons_zero, List.getD_cons_succ, AV.Qj3, Qr, Q3, Xp, Yv, Xd, Yo, YO, YW, Yk, QD, Xt, XT, Yn, Yi, Yl, YU, YT, Yu, List.all_cons, List.all_nil, QB, X7, Qw, QN, Yp, Q9, Xy, Xr, QH, Yq, Xh, Yt, YR, YS, Ym, Bool.and_self, Bool.and_true, Bool.true_and, Bool.not_true, Bool.not_false, ↓reduceIte, List.length_cons, List.length_nil, Nat.reduceAdd, Nat.reduceLT, Nat.reduceLeDiff, Nat.reduceEqDiff, Nat.reduceSub, Nat.reduceMul, Nat.zero_add, Nat.add_zero, true_and, and_true, and_self, XN, XF, Ql, QI, QJ, aBin, aLen, QX, hget, X0, hset, hlen, happ, List.getElem?_cons_zero, List.getElem?_cons_succ, List.getElem?_nil, List.set_cons_zero, List.set_cons_succ, Option.map_some, Option.map_none, Option.bind_some, Option.bind_none, Option.some.injEq, List.toList_toArray, List.getElem?_toArray, List.map_cons, List.map_nil, List.cons_append, List.nil_append, List.append_nil, List.take_succ_cons, List.take_zero, List.drop_succ_cons, List.drop_zero, QU, Xm, goInt, decide_true, decide_false, beq_self_eq_true, bne_self_eq_false, Int.toNat_natCast, Int.toNat_zero, Int.toNat_one, Int.natCast_nonneg, Int.ofNat_lt, Int.ofNat_le, Int.natCast_zero, Bool.false_eq_true, Bool.true_eq_false, beq_true, beq_false, rng0, rng1, rng2, rng3, rng4, rng5, rng6, rng7, rng8, Xa, Nat.reducePow, Nat.zero_le, Nat.zero_mul, T.Qj2, T.Qj4, QG, Xe, ti0, zi0, ti3, zi3, un3, ti4, zi4, un4, ti9, ei9, zi9, un9, ti44, ei44, ai44, zi44, un44, ti53, XR, YZ, Yg, zi53, sp53, ti69, Xw, Ya, X6, XL, zi69, sp69, Int.le_refl, Int.sub_zero, Qaf, Q0, Q2, Y6, z1, z2, z3]))); refine hK1 _ ?_; clear hK1
  (try simp only [List.drop_succ_cons, List.drop_zero]); refine QT 6 (fun K1 hK1 => ?_); simp -implicitDefEqProofs only [Qf, Qb, Qi, OpW, aop, AS.ev, Qc, Qm, ↓reduceIte, Nat.reduceLT, Nat.reduceEqDiff, Nat.zero_add, Ql, QI, QJ, aBin, aLen, QX, List.getElem?_cons_zero, List.getElem?_cons_succ, Option.map_some, Option.bind_some, List.getElem?_toArray, List.take_succ_cons, List.take_zero, QU, goInt, beq_self_eq_true, QG, ti44, un44, Yg, Q2]; (repeat ((((with_reducible refine Qa fun K E hK hE => ?_)); simp -implicitDefEqProofs only [Qf, Qb, Qi, OpW, QW, aop, undef, Zh, List.isEmpty_nil, List.isEmpty_cons, Qab, YQ, Zn, AS.ev, Qc, QV, Qq, Qz, QM, Xo, Zr, XB, XO, Xs, Zk, Qm, QC, List.getD_cons_zero, List.getD_cons_succ, AV.Qj3, Qr, Q3, Xp, Yv, Xd, Yo, YO, YW, Yk, QD, Xt, XT, Yn, Yi, Yl, YU, YT, Yu, List.all_cons, List.all_nil, QB, X7, Qw, QN, Yp, Q9, Xy, Xr, QH, Yq, Xh, Yt, YR, YS, Ym, Bool.and_self, Bool.and_true, Bool.true_and, Bool.not_true, Bool.not_false, ↓reduceIte, List.length_cons, List.length_nil, Nat.reduceAdd, Nat.reduceLT, Nat.reduceLeDiff, Nat.reduceEqDiff, Nat.reduceSub, Nat.reduceMul, Nat.zero_add, Nat.add_zero, true_and, and_true, and_self, XN, XF, Ql, QI, QJ, aBin, aLen, QX, hget, X0, hset, hlen, happ, List.getElem?_cons_zero, List.getElem?_cons_succ, List.getElem?_nil, List.set_cons_zero, List.set_cons_succ, Option.map_some, Option.map_none, Option.bind_some, Option.bind_none, Option.some.injEq, List.toList_toArray, List.getElem?_toArray, List.map_cons, List.map_nil, List.cons_append, List.nil_append, List.append_nil, List.take_succ_cons, List.take_zero, List.drop_succ_cons, List.drop_zero, QU, Xm, goInt, decide_true, decide_false, beq_self_eq_true, bne_self_eq_false, Int.toNat_natCast, Int.toNat_zero, Int.toNat_one, Int.natCast_nonneg, Int.ofNat_lt, Int.ofNat_le, Int.natCast_zero, Bool.false_eq_true, Bool.true_eq_false, beq_true, beq_false, rng0, rng1, rng2, rng3, rng4, rng5, rng6, rng7, rng8, Xa, Nat.reducePow, Nat.zero_le, Nat.zero_mul, T.Qj2, T.Qj4, QG, Xe, ti0, zi0, ti3, zi3, un3, ti4, zi4, un4, ti9, ei9, zi9, un9, ti44, ei44, ai44, zi44, un44, ti53, XR, YZ, Yg, zi53, sp53, ti69, Xw, Ya, X6, XL, zi69, sp69, Int.le_refl, Int.sub_zero, Qaf, Q0, Q2, Y6, z1, z2, z3]))); refine hK1 _ ?_; clear hK1
  simp only [List.drop_succ_cons, List.drop_zero]
  simp -implicitDefEqProofs only [Qb, Qi, OpW, aop, AS.ev, Qc, Qm, ↓reduceIte, Nat.reduceLT, Nat.reduceEqDiff, Nat.zero_add, Ql, QI, QJ, hget, List.getElem?_cons_zero, List.getElem?_cons_succ, Option.map_some, Option.bind_some, List.getElem?_toArray, List.map_cons, List.map_nil, beq_self_eq_true, ti44, Yg, Q2]
  repeat (first | (((with_reducible refine Qy c1 ?_)); simp -implicitDefEqProofs only [Qf, Qb, Qi, OpW, QW, aop, AS.ev, Qc, Qm, ↓reduceIte, Nat.reduceLT, Nat.reduceEqDiff]) | (with_reducible refine Qo ?_) | ((with_reducible refine hK _ ?_); clear hK))
  simp only [QO, Qp, Qv, upd, ↓reduceIte, Option.some.injEq, exists_eq_left']; first | refine Qd (htake _ _) (.keep (.v _)) ⟨rfl, rfl⟩ | refine Qd List.take_length (.keep (.v _)) ⟨rfl, rfl⟩
theorem Qa6 (l : List G) (hn : gN l ≤ 1000000) : Pure Tryz.prog 46 [.sl 2 (vs G.atom l) none, .sl 2 (vs G.atom l) none] (.b true) := by
  intro h
  have hll := QaM l
  have hb : ((l.length : Int) != (l.length : Int)) = false := by simp
  refine Qg Tryz.func46 rfl Tryz.call46 Tryz.ntmps46 (congrArg Array.toList Tryz.results46) (by simp) ?_
  repeat (first | (((with_reducible refine Qa fun K E hK hE => ?_)); simp -implicitDefEqProofs only [Qf, Qb, Qi, OpW, aop, undef, AS.ev, Qc, Qq, Qz, Qm, QC, List.getD_cons_zero, List.getD_cons_succ, ↓reduceIte, Nat.reduceLT, Nat.reduceEqDiff, aBin, aLen, Option.map_some, XJ, goInt, bne_self_eq_false, un22, QF]) | (with_reducible (first | refine Qh fun K hK => ?_ | refine Qk ?_ | refine Qt ?_ | refine Qe ?_)) | ((with_reducible refine hK _ ?_); clear hK) | (refine Qj rfl ?_; simp only [↓reduceIte, Bool.false_eq_true]))
  obtain ⟨I, hI⟩ : ∃ I : Nat → AS → Prop, I = fun m' s => ∃ j : Nat, m' = l.length - j ∧ j ≤ l.length ∧ s.tm 0 = .sl 2 (vs G.atom l) none ∧ s.tm 1 = .sl 2 (vs G.atom l) none ∧ s.tm 5 = .i j ∧ s.h = h := ⟨_, rfl⟩; refine Q4 I ?_ (m := l.length) ?_
  · intro m' s hs; rw [hI] at hs; obtain ⟨tm, hp⟩ := s; dsimp only at hs; obtain ⟨j, rfl, hj, t0, t1, t5, rfl⟩ := hs
    by_cases hlt : j < l.length
    · have hc := Qeq l[j] (Nat.le_trans (Qfd hlt) hn)
      repeat (first | ((first | (with_reducible (first | refine Qa fun K E hK hE => ?_ | refine Qn fun K E hK hE => ?_ | refine QP hc ?_)) | (refine QQ (id := 6) [(0, 0), (1, 0), (2, 0), (3, 0), (4, 0), (5, 0), (6, 0), (7, 0), (8, 1), (9, 0)] mixed (by kernel_rfl) fun K hK => ?_)); simp -implicitDefEqProofs only [Xc, Q7, Xn, Qf, Qb, Qi, OpW, aop, AS.ev, Qc, Qq, Qm, Bool.not_true, ↓reduceIte, List.length_cons, List.length_nil, Nat.reduceAdd, Nat.reduceLT, Nat.reduceLeDiff, Nat.reduceEqDiff, Nat.zero_add, and_self, QI, QJ, QL, aBin, aLen, List.getElem?_cons_zero, List.getElem?_cons_succ, Option.map_some, Option.bind_some, List.getElem?_toArray, List.map_cons, List.map_nil, QY, Xj, XM, goInt, decide_true, beq_self_eq_true, Int.toNat_natCast, Int.natCast_nonneg, Int.ofNat_lt, ei22, un22, ti66, t0, t1, t5, hlt, QF, YG G.atom hlt, XI, Qaa]) | (with_reducible (first | refine Qh fun K hK => ?_ | refine Qk ?_ | refine Qt ?_ | refine Qe ?_ | refine Qs ?_)) | ((with_reducible refine hK _ ?_); clear hK) | (refine Qj rfl ?_; simp only [↓reduceIte, Bool.false_eq_true]))
      refine XE.mk (m' := l.length - (j + 1)) (by omega) ?_
      rw [hI]
      refine ⟨j + 1, rfl, hlt, t0, t1, ?_, rfl⟩
      simp only [upd, ↓reduceIte]
      rw [Xf (by omega)]
    · repeat (first | (((with_reducible refine Qa fun K E hK hE => ?_)); simp -implicitDefEqProofs only [Qf, Qb, Qi, OpW, aop, undef, AS.ev, Qc, Qz, Qm, ↓reduceIte, Nat.reduceLT, Nat.reduceEqDiff, aBin, aLen, List.getElem?_cons_zero, List.getElem?_cons_succ, Option.map_some, Option.bind_some, List.getElem?_toArray, QY, goInt, decide_false, Int.ofNat_lt, Bool.false_eq_true, beq_true, un22, t0, t5, hlt, QF]) | (with_reducible (first | refine Qh fun K hK => ?_ | refine Qo ?_ | refine Q1 ?_ | refine Qe ?_ | refine QS ?_ | refine QR ?_)) | ((with_reducible refine hK _ ?_); clear hK) | (clear hK; (with_reducible refine hK _ ?_); clear hK) | (refine Qj rfl ?_; simp only [↓reduceIte, Bool.false_eq_true]))
      simp only [QO, Qp, Qv, upd, ↓reduceIte, Option.some.injEq, exists_eq_left']; first | refine Qd (htake _ _) (.keep (.v _)) ⟨rfl, rfl⟩ | refine Qd List.take_length (.keep (.v _)) ⟨rfl, rfl⟩
  · rw [hI]
    exact ⟨0, by omega, Nat.zero_le _, rfl, rfl, rfl, rfl⟩
theorem Qa7 (l : List G) (hn : gN l ≤ 1000000) : Pure Tryz.prog 24 [.sl 3 (vs G.goal l) none, .sl 3 (vs G.goal l) none] (.b true) := by
  intro h
  have hll := QaM l
  have hb : ((l.length : Int) != (l.length : Int)) = false := by simp
  refine Qg Tryz.func24 rfl Tryz.call24 Tryz.ntmps24 (congrArg Array.toList Tryz.results24) (by simp) ?_
  repeat (first | (((with_reducible refine Qa fun K E hK hE => ?_)); simp -implicitDefEqProofs only [Qf, Qb, Qi, OpW, aop, undef, AS.ev, Qc, Qq, Qz, Qm, QC, List.getD_cons_zero, List.getD_cons_succ, ↓reduceIte, Nat.reduceLT, Nat.reduceEqDiff, aBin, aLen, Option.map_some, XJ, goInt, bne_self_eq_false, un23, QF]) | (with_reducible (first | refine Qh fun K hK => ?_ | refine Qk ?_ | refine Qt ?_ | refine Qe ?_)) | ((with_reducible refine hK _ ?_); clear hK) | (refine Qj rfl ?_; simp only [↓reduceIte, Bool.false_eq_true]))
  obtain ⟨I, hI⟩ : ∃ I : Nat → AS → Prop, I = fun m' s => ∃ j : Nat, m' = l.length - j ∧ j ≤ l.length ∧ s.tm 0 = .sl 3 (vs G.goal l) none ∧ s.tm 1 = .sl 3 (vs G.goal l) none ∧ s.tm 5 = .i j ∧ s.h = h := ⟨_, rfl⟩; refine Q4 I ?_ (m := l.length) ?_
  · intro m' s hs; rw [hI] at hs; obtain ⟨tm, hp⟩ := s; dsimp only at hs; obtain ⟨j, rfl, hj, t0, t1, t5, rfl⟩ := hs
    by_cases hlt : j < l.length
    · have hc := QdY l[j] (Nat.le_trans (Qfd hlt) hn)
      repeat (first | ((first | (with_reducible (first | refine Qa fun K E hK hE => ?_ | refine Qn fun K E hK hE => ?_ | refine QP hc ?_)) | (refine QQ (id := 6) [(0, 0), (1, 0), (2, 0), (3, 0), (4, 0), (5, 0), (6, 0), (7, 0), (8, 1), (9, 0)] mixed (by kernel_rfl) fun K hK => ?_)); simp -implicitDefEqProofs only [Xc, Q7, Xn, Qf, Qb, Qi, OpW, aop, AS.ev, Qc, Qq, Qm, Bool.not_true, ↓reduceIte, List.length_cons, List.length_nil, Nat.reduceAdd, Nat.reduceLT, Nat.reduceLeDiff, Nat.reduceEqDiff, Nat.zero_add, and_self, QI, QJ, QL, aBin, aLen, List.getElem?_cons_zero, List.getElem?_cons_succ, Option.map_some, Option.bind_some, List.getElem?_toArray, List.map_cons, List.map_nil, QY, Xj, XM, goInt, decide_true, beq_self_eq_true, Int.toNat_natCast, Int.natCast_nonneg, Int.ofNat_lt, ei23, un23, ti53, t0, t1, t5, hlt, QF, YG G.goal hlt, Q2, Y6]) | (with_reducible (first | refine Qh fun K hK => ?_ | refine Qk ?_ | refine Qt ?_ | refine Qe ?_ | refine Qs ?_)) | ((with_reducible refine hK _ ?_); clear hK) | (refine Qj rfl ?_; simp only [↓reduceIte, Bool.false_eq_true]))
      refine XE.mk (m' := l.length - (j + 1)) (by omega) ?_
      rw [hI]
      refine ⟨j + 1, rfl, hlt, t0, t1, ?_, rfl⟩
      simp only [upd, ↓reduceIte]
      rw [Xf (by omega)]
    · repeat (first | (((with_reducible refine Qa fun K E hK hE => ?_)); simp -implicitDefEqProofs only [Qf, Qb, Qi, OpW, aop, undef, AS.ev, Qc, Qz, Qm, ↓reduceIte, Nat.reduceLT, Nat.reduceEqDiff, aBin, aLen, List.getElem?_cons_zero, List.getElem?_cons_succ, Option.map_some, Option.bind_some, List.getElem?_toArray, QY, goInt, decide_false, Int.ofNat_lt, Bool.false_eq_true, beq_true, un23, t0, t5, hlt, QF]) | (with_reducible (first | refine Qh fun K hK => ?_ | refine Qo ?_ | refine Q1 ?_ | refine Qe ?_ | refine QS ?_ | refine QR ?_)) | ((with_reducible refine hK _ ?_); clear hK) | (clear hK; (with_reducible refine hK _ ?_); clear hK) | (refine Qj rfl ?_; simp only [↓reduceIte, Bool.false_eq_true]))
      simp only [QO, Qp, Qv, upd, ↓reduceIte, Option.some.injEq, exists_eq_left']; first | refine Qd (htake _ _) (.keep (.v _)) ⟨rfl, rfl⟩ | refine Qd List.take_length (.keep (.v _)) ⟨rfl, rfl⟩
  · rw [hI]
    exact ⟨0, by omega, Nat.zero_le _, rfl, rfl, rfl, rfl⟩
theorem Qd8 (r : Rl) (hs : gN r.keep ≤ 1000000 ∧ gN r.remove ≤ 1000000 ∧ gN r.guard ≤ 1000000 ∧ gN r.body ≤ 1000000) : Pure Tryz.prog 12 [r.av, r.av] (.b true) := by
  intro h
  obtain ⟨s1, s2, s3, s4⟩ := hs
  have c1 := Qa6 r.keep s1
  have c2 := Qa6 r.remove s2
  have c3 := Qa7 r.guard s3
  have c4 := Qa7 r.body s4
  have z1 : (r.vars == r.vars) = true := by simp
  have z2 : (r.name.toList == r.name.toList) = true := by simp
  refine Qg Tryz.func12 rfl Tryz.call12 Tryz.ntmps12 (congrArg Array.toList Tryz.results12) (by simp) ?_
  (with_reducible refine Qa fun K E hK hE => ?_)
  simp -implicitDefEqProofs only [Qf, Qb, Qi, OpW, aop, undef, AS.ev, Qc, Qz, Qm, QC, List.getD_cons_zero, List.getD_cons_succ, AV.Qj3, List.all_cons, List.all_nil, QB, Qw, QH, Bool.and_self, ↓reduceIte, List.length_cons, List.length_nil, Nat.reduceAdd, Nat.reduceLT, Nat.reduceEqDiff, Nat.zero_add, hlen, happ, List.cons_append, List.nil_append, Rl.cells]
  (with_reducible refine hK _ ?_)
  clear hK
  (with_reducible refine Qa fun K E hK hE => ?_)
  (try simp only [List.toList_toArray]); refine QT 6 (fun K1 hK1 => ?_); simp -implicitDefEqProofs only [Qf, Qb, Qi, OpW, aop, AS.ev, Qc, Qm, ↓reduceIte, Nat.reduceLT, Nat.reduceEqDiff, Nat.add_zero, Ql, QI, QJ, aBin, QX, hget, List.getElem?_cons_zero, List.getElem?_cons_succ, Option.map_some, List.take_succ_cons, List.take_zero, Xm, beq_self_eq_true, ti9, XX, Rl.cells]; (repeat ((((with_reducible refine Qa fun K E hK hE => ?_)); simp -implicitDefEqProofs only [Qf, Qb, Qi, OpW, QW, aop, undef, Zh, List.isEmpty_nil, List.isEmpty_cons, Qab, YQ, Zn, AS.ev, Qc, QV, Qq, Qz, QM, Xo, Zr, XB, XO, Xs, Zk, Qm, QC, List.getD_cons_zero, List.getD_cons_succ, AV.Qj3, Qr, Q3, Xp, Yv, Xd, Yo, YO, YW, Yk, QD, Xt, XT, Yn, Yi, Yl, YU, YT, Yu, List.all_cons, List.all_nil, QB, X7, Qw, QN, Yp, Q9, Xy, Xr, QH, Yq, Xh, Yt, YR, YS, Ym, Bool.and_self, Bool.and_true, Bool.true_and, Bool.not_true, Bool.not_false, ↓reduceIte, List.length_cons, List.length_nil, Nat.reduceAdd, Nat.reduceLT, Nat.reduceLeDiff, Nat.reduceEqDiff, Nat.reduceSub, Nat.reduceMul, Nat.zero_add, Nat.add_zero, true_and, and_true, and_self, XN, XF, Ql, QI, QJ, aBin, QX, hget, X0, hset, hlen, happ, List.getElem?_cons_zero, List.getElem?_cons_succ, List.getElem?_nil, List.set_cons_zero, List.set_cons_succ, Option.map_some, Option.map_none, Option.bind_some, Option.bind_none, Option.some.injEq, List.toList_toArray, List.getElem?_toArray, List.map_cons, List.map_nil, List.cons_append, List.nil_append, List.append_nil, List.take_succ_cons, List.take_zero, List.drop_succ_cons, List.drop_zero, QU, Xm, goInt, decide_true, decide_false, beq_self_eq_true, bne_self_eq_false, Int.toNat_natCast, Int.toNat_zero, Int.toNat_one, Int.natCast_nonneg, Int.ofNat_lt, Int.ofNat_le, Int.natCast_zero, Bool.false_eq_true, Bool.true_eq_false, beq_true, beq_false, rng0, rng1, rng2, rng3, rng4, rng5, rng6, rng7, rng8, Xa, Nat.reducePow, Nat.zero_le, Nat.zero_mul, T.Qj2, T.Qj4, QG, Xe, ti0, zi0, ti3, zi3, un3, ti4, zi4, un4, ti9, ei9, zi9, un9, ti22, ei22, ai22, zi22, un22, ti23, ei23, ai23, zi23, un23, ti25, XX, XY, X1, X5, X9, ZT, zi25, sp25, ti53, XR, YZ, Yg, zi53, sp53, ti66, ZB, Zi, zi66, sp66, Int.le_refl, Int.sub_zero, Qaf, Q0, Rl.cells, Rl.isAgg, z1, z2]))); refine hK1 _ ?_; clear hK1
  (try simp only [List.drop_succ_cons, List.drop_zero]); refine QT 6 (fun K1 hK1 => ?_); simp -implicitDefEqProofs only [Qf, Qb, Qi, OpW, aop, AS.ev, Qc, Qm, ↓reduceIte, Nat.reduceLT, Nat.reduceEqDiff, Nat.zero_add, Ql, QI, QJ, aBin, QX, hget, List.getElem?_cons_zero, List.getElem?_cons_succ, Option.map_some, Option.bind_some, List.getElem?_toArray, List.take_succ_cons, List.take_zero, QU, beq_self_eq_true, ti3, ZT, Rl.cells]; (repeat ((((with_reducible refine Qa fun K E hK hE => ?_)); simp -implicitDefEqProofs only [Qf, Qb, Qi, OpW, QW, aop, undef, Zh, List.isEmpty_nil, List.isEmpty_cons, Qab, YQ, Zn, AS.ev, Qc, QV, Qq, Qz, QM, Xo, Zr, XB, XO, Xs, Zk, Qm, QC, List.getD_cons_zero, List.getD_cons_succ, AV.Qj3, Qr, Q3, Xp, Yv, Xd, Yo, YO, YW, Yk, QD, Xt, XT, Yn, Yi, Yl, YU, YT, Yu, List.all_cons, List.all_nil, QB, X7, Qw, QN, Yp, Q9, Xy, Xr, QH, Yq, Xh, Yt, YR, YS, Ym, Bool.and_self, Bool.and_true, Bool.true_and, Bool.not_true, Bool.not_false, ↓reduceIte, List.length_cons, List.length_nil, Nat.reduceAdd, Nat.reduceLT, Nat.reduceLeDiff, Nat.reduceEqDiff, Nat.reduceSub, Nat.reduceMul, Nat.zero_add, Nat.add_zero, true_and, and_true, and_self, XN, XF, Ql, QI, QJ, aBin, QX, hget, X0, hset, hlen, happ, List.getElem?_cons_zero, List.getElem?_cons_succ, List.getElem?_nil, List.set_cons_zero, List.set_cons_succ, Option.map_some, Option.map_none, Option.bind_some, Option.bind_none, Option.some.injEq, List.toList_toArray, List.getElem?_toArray, List.map_cons, List.map_nil, List.cons_append, List.nil_append, List.append_nil, List.take_succ_cons, List.take_zero, List.drop_succ_cons, List.drop_zero, QU, Xm, goInt, decide_true, decide_false, beq_self_eq_true, bne_self_eq_false, Int.toNat_natCast, Int.toNat_zero, Int.toNat_one, Int.natCast_nonneg, Int.ofNat_lt, Int.ofNat_le, Int.natCast_zero, Bool.false_eq_true, Bool.true_eq_false, beq_true, beq_false, rng0, rng1, rng2, rng3, rng4, rng5, rng6, rng7, rng8, Xa, Nat.reducePow, Nat.zero_le, Nat.zero_mul, T.Qj2, T.Qj4, QG, Xe, ti0, zi0, ti3, zi3, un3, ti4, zi4, un4, ti9, ei9, zi9, un9, ti22, ei22, ai22, zi22, un22, ti23, ei23, ai23, zi23, un23, ti25, XX, XY, X1, X5, X9, ZT, zi25, sp25, ti53, XR, YZ, Yg, zi53, sp53, ti66, ZB, Zi, zi66, sp66, Int.le_refl, Int.sub_zero, Qaf, Q0, Rl.cells, Rl.isAgg, z1, z2]))); refine hK1 _ ?_; clear hK1
  (try simp only [List.drop_succ_cons, List.drop_zero]); refine QT 6 (fun K1 hK1 => ?_); simp -implicitDefEqProofs only [Qb, Qi, OpW, aop, AS.ev, Qc, Qm, ↓reduceIte, Nat.reduceLT, Nat.reduceEqDiff, Nat.zero_add, Ql, QI, QJ, QX, hget, List.getElem?_cons_zero, List.getElem?_cons_succ, Option.map_some, Option.bind_some, List.getElem?_toArray, List.map_cons, List.map_nil, List.take_succ_cons, List.take_zero, beq_self_eq_true, ti22, XY, Rl.cells]; (repeat ((((with_reducible refine Qy c1 ?_)); simp -implicitDefEqProofs only [Qf, QW, Qc, Nat.reduceLT]))); refine hK1 _ ?_; clear hK1
  (try simp only [List.drop_succ_cons, List.drop_zero]); refine QT 6 (fun K1 hK1 => ?_); simp -implicitDefEqProofs only [Qf, Qb, Qi, OpW, aop, AS.ev, Qc, Qm, ↓reduceIte, Nat.reduceLT, Nat.reduceEqDiff, Nat.zero_add, Ql, QI, QJ, QX, hget, List.getElem?_cons_zero, List.getElem?_cons_succ, Option.map_some, Option.bind_some, List.getElem?_toArray, List.take_succ_cons, List.take_zero, beq_self_eq_true, ti22, X1, Rl.cells]; (repeat ((((with_reducible refine Qa fun K E hK hE => ?_)); simp -implicitDefEqProofs only [Qf, Qb, Qi, OpW, QW, aop, undef, Zh, List.isEmpty_nil, List.isEmpty_cons, Qab, YQ, Zn, AS.ev, Qc, QV, Qq, Qz, QM, Xo, Zr, XB, XO, Xs, Zk, Qm, QC, List.getD_cons_zero, List.getD_cons_succ, AV.Qj3, Qr, Q3, Xp, Yv, Xd, Yo, YO, YW, Yk, QD, Xt, XT, Yn, Yi, Yl, YU, YT, Yu, List.all_cons, List.all_nil, QB, X7, Qw, QN, Yp, Q9, Xy, Xr, QH, Yq, Xh, Yt, YR, YS, Ym, Bool.and_self, Bool.and_true, Bool.true_and, Bool.not_true, Bool.not_false, ↓reduceIte, List.length_cons, List.length_nil, Nat.reduceAdd, Nat.reduceLT, Nat.reduceLeDiff, Nat.reduceEqDiff, Nat.reduceSub, Nat.reduceMul, Nat.zero_add, Nat.add_zero, true_and, and_true, and_self, XN, XF, Ql, QI, QJ, aBin, QX, hget, X0, hset, hlen, happ, List.getElem?_cons_zero, List.getElem?_cons_succ, List.getElem?_nil, List.set_cons_zero, List.set_cons_succ, Option.map_some, Option.map_none, Option.bind_some, Option.bind_none, Option.some.injEq, List.toList_toArray, List.getElem?_toArray, List.map_cons, List.map_nil, List.cons_append, List.nil_append, List.append_nil, List.take_succ_cons, List.take_zero, List.drop_succ_cons, List.drop_zero, QU, Xm, goInt, decide_true, decide_false, beq_self_eq_true, bne_self_eq_false, Int.toNat_natCast, Int.toNat_zero, Int.toNat_one, Int.natCast_nonneg, Int.ofNat_lt, Int.ofNat_le, Int.natCast_zero, Bool.false_eq_true, Bool.true_eq_false, beq_true, beq_false, rng0, rng1, rng2, rng3, rng4, rng5, rng6, rng7, rng8, Xa, Nat.reducePow, Nat.zero_le, Nat.zero_mul, T.Qj2, T.Qj4, QG, Xe, ti0, zi0, ti3, zi3, un3, ti4, zi4, un4, ti9, ei9, zi9, un9, ti22, ei22, ai22, zi22, un22, ti23, ei23, ai23, zi23, un23, ti25, XX, XY, X1, X5, X9, ZT, zi25, sp25, ti53, XR, YZ, Yg, zi53, sp53, ti66, ZB, Zi, zi66, sp66, Int.le_refl, Int.sub_zero, Qaf, Q0, Rl.cells, Rl.isAgg, z1, z2]))); refine hK1 _ ?_; clear hK1
  (try simp only [List.drop_succ_cons, List.drop_zero]); refine QT 6 (fun K1 hK1 => ?_); simp -implicitDefEqProofs only [Qb, Qi, OpW, AS.ev, Qm, ↓reduceIte, Nat.reduceEqDiff, List.getElem?_cons_zero, List.getElem?_cons_succ, Option.bind_some, List.getElem?_toArray, List.map_cons, List.map_nil, List.take_succ_cons, List.take_zero, beq_self_eq_true]; (repeat ((((with_reducible refine Qy c2 ?_)); simp -implicitDefEqProofs only [Qf, Qb, Qi, OpW, QW, aop, AS.ev, Qc, Qm, ↓reduceIte, Nat.reduceLT, Nat.reduceEqDiff, Nat.zero_add, Ql, QI, QJ, QX, hget, List.getElem?_cons_zero, List.getElem?_cons_succ, Option.map_some, Option.bind_some, List.getElem?_toArray, beq_self_eq_true, ti23, X5, Rl.cells]))); refine hK1 _ ?_; clear hK1
  (try simp only [List.drop_succ_cons, List.drop_zero]); refine QT 6 (fun K1 hK1 => ?_); simp -implicitDefEqProofs only [Qb, Qi, OpW, aop, AS.ev, Qc, Qm, ↓reduceIte, Nat.reduceLT, Nat.reduceEqDiff, QI, QJ, hget, List.getElem?_cons_zero, List.getElem?_cons_succ, Option.map_some, Option.bind_some, List.getElem?_toArray, List.map_cons, List.map_nil, List.take_succ_cons, List.take_zero, beq_self_eq_true, ti23, Rl.cells]; (repeat ((((with_reducible refine Qy c3 ?_)); simp -implicitDefEqProofs only [Qf, Qb, Qi, OpW, QW, aop, AS.ev, Qc, Qm, ↓reduceIte, Nat.reduceLT, Nat.reduceEqDiff, Nat.zero_add, Ql, QI, QJ, QX, List.getElem?_cons_zero, List.getElem?_cons_succ, Option.map_some, Option.bind_some, List.getElem?_toArray, beq_self_eq_true, ti23, X9, Rl.cells]))); refine hK1 _ ?_; clear hK1
  simp only [List.drop_succ_cons, List.drop_zero]
  simp -implicitDefEqProofs only [Qb, Qi, OpW, aop, AS.ev, Qc, Qm, ↓reduceIte, Nat.reduceLT, Nat.reduceEqDiff, Nat.zero_add, Ql, QI, QJ, hget, List.getElem?_cons_zero, List.getElem?_cons_succ, Option.map_some, Option.bind_some, List.getElem?_toArray, List.map_cons, List.map_nil, beq_self_eq_true, ti23, X9, Rl.cells]
  repeat (first | (((with_reducible refine Qy c4 ?_)); simp -implicitDefEqProofs only [Qf, Qb, Qi, OpW, QW, aop, AS.ev, Qc, Qm, ↓reduceIte, Nat.reduceLT, Nat.reduceEqDiff]) | (with_reducible refine Qo ?_) | ((with_reducible refine hK _ ?_); clear hK))
  simp only [QO, Qp, Qv, upd, ↓reduceIte, Option.some.injEq, exists_eq_left']; first | refine Qd (htake _ _) (.keep (.v _)) ⟨rfl, rfl⟩ | refine Qd List.take_length (.keep (.v _)) ⟨rfl, rfl⟩
end Go.Proofs.YtenheconhibonaaGreatDoor.Ab
set_option linter.unusedVariables false
namespace Go.Proofs.YtenheconhibonaaGreatDoor.Ab
end Go.Proofs.YtenheconhibonaaGreatDoor.Ab
set_option linter.unusedSimpArgs false
set_option linter.unusedVariables false
set_option maxHeartbeats 4000000
set_option maxRecDepth 4000
namespace Go.Proofs.YtenheconhibonaaGreatDoor.Ab
open Go.Proofs
theorem QeF (t : T) : Pure Tryz.prog 103 [t.av] (.sl 4 (avs t.uses) none) := by
  intro h
  refine Qg Tryz.func103 rfl Tryz.call103 Tryz.ntmps103 (congrArg Array.toList Tryz.results103) (by simp) ?_
  by_cases hk : t.kind = 2
  · have hb : (t.kind == 2) = true := by simpa using hk
    repeat (first | (((with_reducible refine Qa fun K E hK hE => ?_)); simp -implicitDefEqProofs only [Qf, Qb, Qi, OpW, aop, undef, AS.ev, Qc, Qq, Xo, Qm, QC, List.getD_cons_zero, AV.Qj3, List.all_cons, List.all_nil, QB, Qw, QH, Bool.and_self, ↓reduceIte, List.length_cons, List.length_nil, Nat.reduceAdd, Nat.reduceLT, Nat.reduceEqDiff, Nat.zero_add, Nat.add_zero, Ql, QI, QJ, aBin, QX, List.getElem?_cons_zero, List.getElem?_cons_succ, Option.map_some, QU, T.Qj2, ti3, ti44, Xw, XL, hb, T.Qj2]) | (with_reducible (first | refine Qh fun K hK => ?_ | refine Qo ?_ | refine QA ?_)) | ((with_reducible refine hK _ ?_); clear hK) | (refine Qj rfl ?_; simp only [↓reduceIte]))
    simp only [QO, Qp, Qv, upd, ↓reduceIte, Option.some.injEq, exists_eq_left']
    refine Qd (htake _ _) (.keep (Qcs _ _)) ⟨by rw [T.uses, if_pos hk], rfl⟩
  · have hb : (t.kind == 2) = false := by simpa using hk
    repeat (first | (((with_reducible refine Qa fun K E hK hE => ?_)); simp -implicitDefEqProofs only [Qf, Qb, Qi, OpW, aop, undef, AS.ev, Qc, Qq, Xo, Qm, QC, List.getD_cons_zero, AV.Qj3, List.all_cons, List.all_nil, QB, Qw, QH, Bool.and_self, ↓reduceIte, List.length_cons, List.length_nil, Nat.reduceAdd, Nat.reduceLT, Nat.reduceEqDiff, Nat.zero_add, Nat.add_zero, Ql, QI, QJ, aBin, QX, List.getElem?_cons_zero, Option.map_some, QU, T.Qj2, ti3, Xw, hb, T.Qj2]) | (with_reducible (first | refine Qh fun K hK => ?_ | refine Qo ?_ | refine Qt ?_ | refine Qe ?_)) | ((with_reducible refine hK _ ?_); clear hK) | (refine Qj rfl ?_; simp only [↓reduceIte, Bool.false_eq_true]))
    simp only [QO, Qp, Qv, upd, ↓reduceIte, Option.some.injEq, exists_eq_left']
    refine Qd (htake _ _) (.nil 4) ⟨by rw [T.uses, if_neg hk]; rfl, rfl⟩
end Go.Proofs.YtenheconhibonaaGreatDoor.Ab
set_option linter.unusedSimpArgs false
set_option linter.unusedVariables false
set_option maxHeartbeats 4000000
set_option maxRecDepth 4000
namespace Go.Proofs.YtenheconhibonaaGreatDoor.Ab
open Go.Proofs
theorem QiL (u : List Int) (own : Option Nat) (n : Int) (hb : u.length ≤ 1000000) : Pure Tryz.prog 102 [.sl 1 (ints u) own, .i n] (.b (decide (n ∈ u))) := by
  intro h
  refine Qg Tryz.func102 rfl Tryz.call102 Tryz.ntmps102 (congrArg Array.toList Tryz.results102) (by simp) ?_
  repeat (first | (((with_reducible refine Qa fun K E hK hE => ?_)); simp -implicitDefEqProofs only [Qf, Qb, Qi, OpW, aop, AS.ev, Qc, Qq, Qz, Nat.reduceLT]) | (with_reducible (first | refine Qh fun K hK => ?_ | refine Qk ?_)) | ((with_reducible refine hK _ ?_); clear hK))
  obtain ⟨I, hI⟩ : ∃ I : Nat → AS → Prop, I = fun m' s => ∃ j : Nat, m' = u.length - j ∧ j ≤ u.length ∧ (n ∈ u ↔ n ∈ u.drop j) ∧ s.tm 0 = .sl 1 (ints u) own ∧ s.tm 1 = .i n ∧ s.tm 5 = .i j ∧ s.h = h := ⟨_, rfl⟩; refine Q4 I ?_ (m := u.length) ?_
  · intro m' s hs; rw [hI] at hs; obtain ⟨tm, hp⟩ := s; dsimp only at hs; obtain ⟨j, rfl, hj, he, t0, t1, t5, rfl⟩ := hs
    by_cases hlt : j < u.length
    · rw [List.drop_eq_getElem_cons hlt, List.mem_cons] at he
      by_cases hz : u[j] = n
      · have hb1 : (u[j] == n) = true := by simpa using hz
        have hm : n ∈ u := he.2 (.inl hz.symm)
        repeat (first | (((with_reducible refine Qa fun K E hK hE => ?_)); simp -implicitDefEqProofs only [Qf, Qb, Qi, OpW, aop, AS.ev, Qc, Qz, Qm, Q3, ↓reduceIte, Nat.reduceLT, Nat.reduceEqDiff, and_self, QI, QJ, QL, aBin, aLen, List.getElem?_cons_zero, Option.map_some, QU, QY, goInt, decide_true, Int.toNat_natCast, Int.natCast_nonneg, Int.ofNat_lt, Xe, ti3, ei42, un42, t0, t1, t5, hlt, Qgo hlt, hb1]) | (with_reducible (first | refine Qh fun K hK => ?_ | refine Qk ?_ | refine Qo ?_ | refine Qt ?_ | refine Qe ?_ | refine QA ?_ | refine QE ?_)) | ((with_reducible refine hK _ ?_); clear hK) | (refine Qj rfl ?_; simp only [↓reduceIte]))
        simp only [QO, Qp, Qv, upd, ↓reduceIte, Option.some.injEq, exists_eq_left']
        exact Qd List.take_length (.keep (.v _)) ⟨by rw [decide_eq_true hm], rfl⟩
      · have hb1 : (u[j] == n) = false := by simpa using hz
        repeat (first | ((first | (with_reducible (first | refine Qa fun K E hK hE => ?_ | refine Qn fun K E hK hE => ?_))); simp -implicitDefEqProofs only [Qf, Qb, Qi, OpW, aop, AS.ev, Qc, Qq, Qm, Q3, ↓reduceIte, Nat.reduceLT, Nat.reduceEqDiff, and_self, QI, QJ, QL, aBin, aLen, List.getElem?_cons_zero, Option.map_some, QU, QY, Xj, goInt, decide_true, Int.toNat_natCast, Int.natCast_nonneg, Int.ofNat_lt, Xe, ti3, ei42, un42, t0, t1, t5, hlt, Qgo hlt, hb1]) | (with_reducible (first | refine Qh fun K hK => ?_ | refine Qk ?_ | refine Qt ?_ | refine Qe ?_ | refine Qs ?_)) | ((with_reducible refine hK _ ?_); clear hK) | (refine Qj rfl ?_; simp only [↓reduceIte, Bool.false_eq_true]))
        refine XE.mk (m' := u.length - (j + 1)) (by omega) ?_
        rw [hI]
        refine ⟨j + 1, rfl, hlt, he.trans ⟨fun h => h.elim (fun e => absurd e.symm hz) id, .inr⟩, t0, t1, ?_, rfl⟩
        simp only [upd, ↓reduceIte]
        rw [Xf (by omega)]
    · have hjl : j = u.length := by omega
      rw [hjl, List.drop_length] at he
      have hm : ¬ n ∈ u := fun h => by simpa using he.1 h
      repeat (first | (((with_reducible refine Qa fun K E hK hE => ?_)); simp -implicitDefEqProofs only [Qf, Qb, Qi, OpW, aop, AS.ev, Qc, Qz, Qm, ↓reduceIte, Nat.reduceLT, Nat.reduceEqDiff, aBin, aLen, Option.map_some, QY, goInt, decide_false, Int.ofNat_lt, Xe, un42, t0, t5, hlt]) | (with_reducible (first | refine Qh fun K hK => ?_ | refine Qo ?_ | refine Q1 ?_ | refine Qe ?_ | refine QS ?_ | refine QR ?_)) | ((with_reducible refine hK _ ?_); clear hK) | (clear hK; (with_reducible refine hK _ ?_); clear hK) | (refine Qj rfl ?_; simp only [↓reduceIte, Bool.false_eq_true]))
      simp only [QO, Qp, Qv, upd, ↓reduceIte, Option.some.injEq, exists_eq_left']
      exact Qd List.take_length (.keep (.v _)) ⟨by rw [decide_eq_false hm], rfl⟩
  · rw [hI]
    exact ⟨0, by omega, Nat.zero_le _, by simp, rfl, rfl, rfl, rfl⟩
theorem QeQ (t : T) : ndsL t.uses ≤ ndsL t.args := by
  unfold T.uses
  split
  · exact Nat.le_refl _
  · simp [ndsL]
structure TokOk (H : Nat → AH) (m k e s : Nat) : Prop where
  len : ∀ n, (H n).length = m
  lt : k < m
  get : ∀ n, (H n)[k]? = some (.grow e s n)
  set : ∀ n n', (H n).set k (.grow e s n') = H n'
theorem TokOk.old {H : Nat → AH} {m k e s : Nat} (V : TokOk H m k e s) : ∀ n n' (i : Nat) b, (H n')[i]? = some b → (H n)[i]? = some b ∨ b.Below m := by
  intro n n' i b hb
  rw [← V.set n n'] at hb
  by_cases hi : k = i
  · subst hi
    rw [List.getElem?_set_self (by rw [V.len]; exact V.lt)] at hb
    cases hb
    exact .inr trivial
  · rw [List.getElem?_set_ne hi] at hb
    exact .inl hb
theorem QbI {σ : Type} {H : σ → AH} {m : Nat} (hm : ∀ s, (H s).length = m) (hH : ∀ s s' (i : Nat) b, (H s')[i]? = some b → (H s)[i]? = some b ∨ b.Below m) {s s2 : σ} {L own : AH} {r r' : AV} {Q : AV → AH → Prop}
    (hf : Frz (H s2 ++ (L ++ own)) (m + L.length) r r') (hq : Q r' (H s2 ++ L)) : Leaves (H s ++ L) (H s2 ++ (L ++ own)) r Q := by
  have ht : (H s2 ++ (L ++ own)).take (m + L.length) = H s2 ++ L := by
    rw [← List.append_assoc, ← hm s2, ← List.length_append, List.take_left]
  refine .inl ⟨m + L.length, r', by rw [List.length_append, hm]; exact Nat.le_refl _, by simp [hm], .inr fun i b hb => ?_, hf, by rw [ht]; exact hq⟩
  rw [ht] at hb
  rcases Nat.lt_or_ge i m with hi | hi
  · rw [List.getElem?_append_left (by rw [hm]; exact hi)] at hb
    rcases hH s s2 i b hb with h | h
    · exact .inl (by rw [List.getElem?_append_left (by rw [hm]; exact hi)]; exact h)
    · exact .inr (h.mono (by omega))
  · rw [List.getElem?_append_right (by rw [hm]; exact hi), hm] at hb
    exact .inl (by rw [List.getElem?_append_right (by rw [hm]; exact hi), hm]; exact hb)
theorem T.Qkk (t : T) : t.vars = if t.kind = 1 then [t.int] else XD t.uses := by
  cases t with | mk k i n l =>
  show T.vars (.mk k i n l) = if k = 1 then [i] else XD (if k = 2 then l else [])
  simp only [T.vars]
  by_cases h1 : k = 1
  · rw [if_pos h1, if_pos h1]
  · rw [if_neg h1, if_neg h1]
    by_cases h2 : k = 2
    · rw [if_pos h2, if_pos h2]
    · rw [if_neg h2, if_neg h2]; rfl
theorem Qap {H : Nat → AH} {m k : Nat} (V : TokOk H m k 3 1) : ∀ n, n ≤ 1000000 → ∀ (t : T) (u : List Int) (L : AH), t.nds ≤ n → u.length + t.nds ≤ 1000000 →
    XG Tryz.prog 62 [.sl 1 (ints u) (some k), t.av] (H u.length ++ L) fun o h' => o = .ret (.sl 1 (ints (ded u t.vars)) (some k)) ∧ h' = H (ded u t.vars).length ++ L
  | 0, _, t, _, _, hn, _ => by have := T.Qj7 t; omega
  | n + 1, hb, t, u, L, hn, hu => by
    have e := T.Qkk t
    have hnd := T.Qj7 t
    have hm := V.len
    have gk : ∀ (n : Nat) (L : AH) (k : Nat), (H n ++ L)[m + k]? = L[k]? := fun u L k => by rw [← hm u]; exact hget _ _ _
    have sk : ∀ (n : Nat) (L : AH) (k : Nat) (b : AB), (H n ++ L).set (m + k) b = H n ++ L.set k b := fun u L k b => by rw [← hm u]; exact hset _ _ _ _
    have gt : ∀ (n : Nat) (L : AH), (H n ++ L)[k]? = some (.grow 3 1 n) := fun n L => by rw [List.getElem?_append_left (by rw [hm]; exact V.lt)]; exact V.get n
    have st : ∀ (n n' : Nat) (L : AH), (H n ++ L).set k (.grow 3 1 n') = H n' ++ L := fun n n' L => by rw [List.set_append_left _ _ (by rw [hm]; exact V.lt), V.set]
    have ca := QeF t
    have ch := QiL u (some k) t.int (by omega)
    have hlu := XA t.uses
    have hul := QeQ t
    by_cases h1 : t.kind = 1
    · have b1 : (t.kind == 1) = true := by simpa using h1
      have hus : t.uses = [] := by unfold T.uses; rw [if_neg (by omega)]
      rw [if_pos h1] at e
      by_cases hmem : t.int ∈ u
      · have hed : ded u t.vars = ded u (XD (t.uses.drop 0)) := by rw [e, hus]; exact if_pos hmem
        have hlen' : u.length + ndsL (t.uses.drop 0) ≤ 1000000 := by rw [List.drop_zero]; omega
        rw [decide_eq_true hmem] at ch
        refine Qg Tryz.func62 rfl Tryz.call62 Tryz.ntmps62 (congrArg Array.toList Tryz.results62) (by simp) ?_
        repeat (first | ((first | (with_reducible (first | refine Qa fun K E hK hE => ?_ | refine Qy ca ?_ | refine Qy ch ?_))); simp -implicitDefEqProofs only [Qf, Qb, Qi, OpW, QW, aop, undef, AS.ev, Qc, Qq, Xo, Qm, QC, List.getD_cons_zero, List.getD_cons_succ, AV.Qj3, List.all_cons, List.all_nil, QB, Qw, QH, Bool.and_self, Bool.not_true, ↓reduceIte, List.length_cons, List.length_nil, Nat.reduceAdd, Nat.reduceLT, Nat.reduceEqDiff, Nat.zero_add, Nat.add_zero, and_self, Ql, QI, QJ, aBin, QX, hlen, happ, List.getElem?_cons_zero, List.getElem?_cons_succ, Option.map_some, Option.bind_some, List.getElem?_toArray, List.map_cons, List.map_nil, QU, XM, beq_self_eq_true, T.Qj2, T.Qj4, ti3, ti69, Xw, Ya, b1, hm, gk]) | (with_reducible (first | refine Qh fun K hK => ?_ | refine Qk ?_ | refine Qt ?_ | refine Qe ?_)) | ((with_reducible refine hK _ ?_); clear hK) | (refine Qj rfl ?_; simp only [↓reduceIte, Bool.false_eq_true]))
        obtain ⟨I, hI⟩ : ∃ I : Nat → AS → Prop, I = fun m' s => ∃ (j : Nat) (v : List Int) (M : AH), m' = t.uses.length - j ∧ j ≤ t.uses.length ∧ ded u t.vars = ded v (XD (t.uses.drop j)) ∧ v.length + ndsL (t.uses.drop j) ≤ 1000000 ∧ s.tm 0 = .sl 1 (ints v) (some k) ∧ s.tm 5 = .sl 4 (avs t.uses) none ∧ s.tm 6 = .i j ∧ s.h = H v.length ++ (L ++ M) := ⟨_, rfl⟩; refine Q4 I ?_ (m := t.uses.length) ?_
        · intro m' s hs; rw [hI] at hs; obtain ⟨tm, hp⟩ := s; dsimp only at hs; obtain ⟨j, v, M, rfl, hj, hw, hv, t0, t5, t6, rfl⟩ := hs
          by_cases hlt : j < t.uses.length
          · rw [List.drop_eq_getElem_cons hlt] at hw hv
            simp only [XD, Y8] at hw
            simp only [ndsL] at hv
            have hcc := fun L => Qap V n (by omega) t.uses[j] v L (Nat.le_trans (Qak hlt) (by omega)) (by omega)
            have hdl := Y7 v (t.uses[j]).vars
            have hvl := T.Qj5 t.uses[j]
            repeat (first | ((first | (with_reducible (first | refine Qa fun K E hK hE => ?_ | refine Qn fun K E hK hE => ?_ | refine FunW.ret (FunW.call (hcc _)) ?_))); simp -implicitDefEqProofs only [Qf, Qb, Qi, OpW, QW, aop, AS.ev, Qc, Qq, Qm, ↓reduceIte, List.length_cons, List.length_nil, Nat.reduceAdd, Nat.reduceLT, Nat.reduceEqDiff, Nat.zero_add, and_self, QI, QJ, QL, aBin, aLen, Option.map_some, List.map_cons, List.map_nil, QY, Xj, goInt, decide_true, Int.toNat_natCast, Int.natCast_nonneg, Int.ofNat_lt, T.Qj2, T.Qj4, QG, ei44, un44, ti69, t0, t5, t6, hlt, Zc hlt]) | (with_reducible (first | refine Qh fun K hK => ?_ | refine Qk ?_ | refine Qt ?_ | refine Qe ?_ | refine Qs ?_)) | ((with_reducible refine hK _ ?_); clear hK) | (refine Qj rfl ?_; simp only [↓reduceIte]))
            refine XE.mk (m' := t.uses.length - (j + 1)) (by omega) ?_
            rw [hI]
            refine ⟨j + 1, _, _, rfl, hlt, hw, by omega, rfl, t5, ?_, rfl⟩
            simp only [upd, ↓reduceIte]
            rw [Xf (by omega)]
          · have hjl : j = t.uses.length := by omega
            rw [hjl, List.drop_length] at hw
            simp only [XD, ded] at hw
            repeat (first | (((with_reducible refine Qa fun K E hK hE => ?_)); simp -implicitDefEqProofs only [Qf, Qb, Qi, OpW, aop, AS.ev, Qc, Qm, ↓reduceIte, Nat.reduceLT, Nat.reduceEqDiff, aBin, aLen, Option.map_some, QY, goInt, decide_false, Int.ofNat_lt, QG, un44, t0, t5, t6, hlt]) | (with_reducible (first | refine Qh fun K hK => ?_ | refine Qo ?_ | refine Q1 ?_ | refine Qe ?_ | refine QS ?_ | refine QR ?_)) | ((with_reducible refine hK _ ?_); clear hK) | (clear hK; (with_reducible refine hK _ ?_); clear hK) | (refine Qj rfl ?_; simp only [↓reduceIte, Bool.false_eq_true]))
            simp only [QO, Qp, Qv, upd, ↓reduceIte, Option.some.injEq, exists_eq_left']
            exact QbI V.len V.old (.keep (.sl 1 _ _ (QaP _ _) (fun b hb => by cases hb; have := V.lt; omega))) ⟨by rw [hw], by rw [hw]⟩
        · rw [hI]
          exact ⟨0, _, _, by omega, Nat.zero_le _, hed, hlen', rfl, rfl, rfl, rfl⟩
      · have hed : ded u t.vars = ded (u ++ [t.int]) (XD (t.uses.drop 0)) := by rw [e, hus]; exact if_neg hmem
        have hlen' : (u ++ [t.int]).length + ndsL (t.uses.drop 0) ≤ 1000000 := by rw [hus, List.length_append]; simp only [List.drop_nil, ndsL, List.length_singleton]; omega
        rw [decide_eq_false hmem] at ch
        have hb1 : u.length + 1 ≤ maxLen := by simp only [maxLen]; omega
        have hb2 : (u.length + 1) * 8 ≤ 140737488355328 := by omega
        refine Qg Tryz.func62 rfl Tryz.call62 Tryz.ntmps62 (congrArg Array.toList Tryz.results62) (by simp) ?_
        repeat (first | ((first | (with_reducible (first | refine Qa fun K E hK hE => ?_ | refine Qn fun K E hK hE => ?_ | refine Qy ca ?_ | refine Qy ch ?_))); simp -implicitDefEqProofs only [Qf, Qb, Qi, OpW, QW, aop, undef, AS.ev, Qc, Qq, Xo, Qm, QC, List.getD_cons_zero, List.getD_cons_succ, AV.Qj3, Q3, List.all_cons, List.all_nil, QB, Qw, QH, Bool.and_self, Bool.not_false, ↓reduceIte, List.length_cons, List.length_nil, Nat.reduceAdd, Nat.reduceLT, Nat.reduceLeDiff, Nat.reduceEqDiff, Nat.reduceMul, Nat.zero_add, Nat.add_zero, and_self, Ql, QI, QJ, aBin, Q5, YD, Zd, QX, hlen, happ, List.getElem?_cons_zero, List.getElem?_cons_succ, Option.map_some, Option.bind_some, List.getElem?_toArray, List.map_cons, List.map_nil, QU, XM, beq_self_eq_true, rng1, Xa, Nat.reducePow, T.Qj2, T.Qj4, Xe, ti3, zi3, ei42, ai42, ti69, Xw, Ya, b1, hm, gk, gt, st, hb1, hb2]) | (with_reducible (first | refine Qh fun K hK => ?_ | refine Qk ?_ | refine Qe ?_)) | ((with_reducible refine hK _ ?_); clear hK) | (refine Qj rfl ?_; simp only [↓reduceIte]))
        obtain ⟨I, hI⟩ : ∃ I : Nat → AS → Prop, I = fun m' s => ∃ (j : Nat) (v : List Int) (M : AH), m' = t.uses.length - j ∧ j ≤ t.uses.length ∧ ded u t.vars = ded v (XD (t.uses.drop j)) ∧ v.length + ndsL (t.uses.drop j) ≤ 1000000 ∧ s.tm 0 = .sl 1 (ints v) (some k) ∧ s.tm 5 = .sl 4 (avs t.uses) none ∧ s.tm 6 = .i j ∧ s.h = H v.length ++ (L ++ M) := ⟨_, rfl⟩; refine Q4 I ?_ (m := t.uses.length) ?_
        · intro m' s hs; rw [hI] at hs; obtain ⟨tm, hp⟩ := s; dsimp only at hs; obtain ⟨j, v, M, rfl, hj, hw, hv, t0, t5, t6, rfl⟩ := hs
          by_cases hlt : j < t.uses.length
          · rw [List.drop_eq_getElem_cons hlt] at hw hv
            simp only [XD, Y8] at hw
            simp only [ndsL] at hv
            have hcc := fun L => Qap V n (by omega) t.uses[j] v L (Nat.le_trans (Qak hlt) (by omega)) (by omega)
            have hdl := Y7 v (t.uses[j]).vars
            have hvl := T.Qj5 t.uses[j]
            repeat (first | ((first | (with_reducible (first | refine Qa fun K E hK hE => ?_ | refine Qn fun K E hK hE => ?_ | refine FunW.ret (FunW.call (hcc _)) ?_))); simp -implicitDefEqProofs only [Qf, Qb, Qi, OpW, QW, aop, AS.ev, Qc, Qq, Qm, ↓reduceIte, List.length_cons, List.length_nil, Nat.reduceAdd, Nat.reduceLT, Nat.reduceEqDiff, Nat.zero_add, and_self, QI, QJ, QL, aBin, aLen, Option.map_some, List.map_cons, List.map_nil, QY, Xj, goInt, decide_true, Int.toNat_natCast, Int.natCast_nonneg, Int.ofNat_lt, T.Qj2, T.Qj4, QG, ei44, un44, ti69, t0, t5, t6, hlt, Zc hlt]) | (with_reducible (first | refine Qh fun K hK => ?_ | refine Qk ?_ | refine Qt ?_ | refine Qe ?_ | refine Qs ?_)) | ((with_reducible refine hK _ ?_); clear hK) | (refine Qj rfl ?_; simp only [↓reduceIte]))
            refine XE.mk (m' := t.uses.length - (j + 1)) (by omega) ?_
            rw [hI]
            refine ⟨j + 1, _, _, rfl, hlt, hw, by omega, rfl, t5, ?_, rfl⟩
            simp only [upd, ↓reduceIte]
            rw [Xf (by omega)]
          · have hjl : j = t.uses.length := by omega
            rw [hjl, List.drop_length] at hw
            simp only [XD, ded] at hw
            repeat (first | (((with_reducible refine Qa fun K E hK hE => ?_)); simp -implicitDefEqProofs only [Qf, Qb, Qi, OpW, aop, AS.ev, Qc, Qm, ↓reduceIte, Nat.reduceLT, Nat.reduceEqDiff, aBin, aLen, Option.map_some, QY, goInt, decide_false, Int.ofNat_lt, QG, un44, t0, t5, t6, hlt]) | (with_reducible (first | refine Qh fun K hK => ?_ | refine Qo ?_ | refine Q1 ?_ | refine Qe ?_ | refine QS ?_ | refine QR ?_)) | ((with_reducible refine hK _ ?_); clear hK) | (clear hK; (with_reducible refine hK _ ?_); clear hK) | (refine Qj rfl ?_; simp only [↓reduceIte, Bool.false_eq_true]))
            simp only [QO, Qp, Qv, upd, ↓reduceIte, Option.some.injEq, exists_eq_left']
            exact QbI V.len V.old (.keep (.sl 1 _ _ (QaP _ _) (fun b hb => by cases hb; have := V.lt; omega))) ⟨by rw [hw], by rw [hw]⟩
        · rw [hI]
          exact ⟨0, _, _, by omega, Nat.zero_le _, hed, hlen', by rw [QfD, QiN]; rfl, rfl, rfl, by rw [List.length_append]; rfl⟩
    · have b1 : (t.kind == 1) = false := by simpa using h1
      rw [if_neg h1] at e
      have hed : ded u t.vars = ded u (XD (t.uses.drop 0)) := by rw [e, List.drop_zero]
      have hlen' : u.length + ndsL (t.uses.drop 0) ≤ 1000000 := by rw [List.drop_zero]; omega
      refine Qg Tryz.func62 rfl Tryz.call62 Tryz.ntmps62 (congrArg Array.toList Tryz.results62) (by simp) ?_
      repeat (first | ((first | (with_reducible (first | refine Qa fun K E hK hE => ?_ | refine Qy ca ?_))); simp -implicitDefEqProofs only [Qf, Qb, Qi, OpW, QW, aop, undef, AS.ev, Qc, Qq, Qz, Xo, Qm, QC, List.getD_cons_zero, List.getD_cons_succ, AV.Qj3, List.all_cons, List.all_nil, QB, Qw, QH, Bool.and_self, ↓reduceIte, List.length_cons, List.length_nil, Nat.reduceAdd, Nat.reduceLT, Nat.reduceEqDiff, Nat.zero_add, Nat.add_zero, and_self, Ql, QI, QJ, aBin, QX, hlen, happ, List.getElem?_cons_zero, List.getElem?_cons_succ, Option.map_some, Option.bind_some, List.getElem?_toArray, List.map_cons, List.map_nil, QU, Bool.false_eq_true, beq_true, T.Qj2, T.Qj4, ti3, ti69, Xw, b1, hm, gk]) | (with_reducible (first | refine Qh fun K hK => ?_ | refine Qk ?_ | refine Qt ?_ | refine Qe ?_)) | ((with_reducible refine hK _ ?_); clear hK) | (refine Qj rfl ?_; simp only [↓reduceIte, Bool.false_eq_true]))
      obtain ⟨I, hI⟩ : ∃ I : Nat → AS → Prop, I = fun m' s => ∃ (j : Nat) (v : List Int) (M : AH), m' = t.uses.length - j ∧ j ≤ t.uses.length ∧ ded u t.vars = ded v (XD (t.uses.drop j)) ∧ v.length + ndsL (t.uses.drop j) ≤ 1000000 ∧ s.tm 0 = .sl 1 (ints v) (some k) ∧ s.tm 5 = .sl 4 (avs t.uses) none ∧ s.tm 6 = .i j ∧ s.h = H v.length ++ (L ++ M) := ⟨_, rfl⟩; refine Q4 I ?_ (m := t.uses.length) ?_
      · intro m' s hs; rw [hI] at hs; obtain ⟨tm, hp⟩ := s; dsimp only at hs; obtain ⟨j, v, M, rfl, hj, hw, hv, t0, t5, t6, rfl⟩ := hs
        by_cases hlt : j < t.uses.length
        · rw [List.drop_eq_getElem_cons hlt] at hw hv
          simp only [XD, Y8] at hw
          simp only [ndsL] at hv
          have hcc := fun L => Qap V n (by omega) t.uses[j] v L (Nat.le_trans (Qak hlt) (by omega)) (by omega)
          have hdl := Y7 v (t.uses[j]).vars
          have hvl := T.Qj5 t.uses[j]
          repeat (first | ((first | (with_reducible (first | refine Qa fun K E hK hE => ?_ | refine Qn fun K E hK hE => ?_ | refine FunW.ret (FunW.call (hcc _)) ?_))); simp -implicitDefEqProofs only [Qf, Qb, Qi, OpW, QW, aop, AS.ev, Qc, Qq, Qm, ↓reduceIte, List.length_cons, List.length_nil, Nat.reduceAdd, Nat.reduceLT, Nat.reduceEqDiff, Nat.zero_add, and_self, QI, QJ, QL, aBin, aLen, Option.map_some, List.map_cons, List.map_nil, QY, Xj, goInt, decide_true, Int.toNat_natCast, Int.natCast_nonneg, Int.ofNat_lt, T.Qj2, T.Qj4, QG, ei44, un44, ti69, t0, t5, t6, hlt, Zc hlt]) | (with_reducible (first | refine Qh fun K hK => ?_ | refine Qk ?_ | refine Qt ?_ | refine Qe ?_ | refine Qs ?_)) | ((with_reducible refine hK _ ?_); clear hK) | (refine Qj rfl ?_; simp only [↓reduceIte]))
          refine XE.mk (m' := t.uses.length - (j + 1)) (by omega) ?_
          rw [hI]
          refine ⟨j + 1, _, _, rfl, hlt, hw, by omega, rfl, t5, ?_, rfl⟩
          simp only [upd, ↓reduceIte]
          rw [Xf (by omega)]
        · have hjl : j = t.uses.length := by omega
          rw [hjl, List.drop_length] at hw
          simp only [XD, ded] at hw
          repeat (first | (((with_reducible refine Qa fun K E hK hE => ?_)); simp -implicitDefEqProofs only [Qf, Qb, Qi, OpW, aop, AS.ev, Qc, Qm, ↓reduceIte, Nat.reduceLT, Nat.reduceEqDiff, aBin, aLen, Option.map_some, QY, goInt, decide_false, Int.ofNat_lt, QG, un44, t0, t5, t6, hlt]) | (with_reducible (first | refine Qh fun K hK => ?_ | refine Qo ?_ | refine Q1 ?_ | refine Qe ?_ | refine QS ?_ | refine QR ?_)) | ((with_reducible refine hK _ ?_); clear hK) | (clear hK; (with_reducible refine hK _ ?_); clear hK) | (refine Qj rfl ?_; simp only [↓reduceIte, Bool.false_eq_true]))
          simp only [QO, Qp, Qv, upd, ↓reduceIte, Option.some.injEq, exists_eq_left']
          exact QbI V.len V.old (.keep (.sl 1 _ _ (QaP _ _) (fun b hb => by cases hb; have := V.lt; omega))) ⟨by rw [hw], by rw [hw]⟩
      · rw [hI]
        exact ⟨0, _, _, by omega, Nat.zero_le _, hed, hlen', rfl, rfl, rfl, rfl⟩
theorem Qh7 (h : AH) (e s : Nat) : TokOk (fun n => h ++ [.grow e s n]) (h.length + 1) h.length e s where
  len := fun n => by simp
  lt := by omega
  get := fun n => by rw [QX]; rfl
  set := fun n n' => by rw [X0]; rfl
theorem Qba (l : List T) (hn : ndsL l ≤ 1000000) : Pure Tryz.prog 20 [.sl 4 (avs l) none] (.sl 1 (ints (ded [] (XD l))) none) := by
  intro h
  have hll := XA l
  refine Qg Tryz.func20 rfl Tryz.call20 Tryz.ntmps20 (congrArg Array.toList Tryz.results20) (by simp) ?_
  repeat (first | (((with_reducible refine Qa fun K E hK hE => ?_)); simp -implicitDefEqProofs only [Qf, Qb, Qi, OpW, aop, AS.ev, Qc, Qq, Xo, Nat.reduceLT]) | (with_reducible (first | refine Qh fun K hK => ?_ | refine Qk ?_)) | ((with_reducible refine hK _ ?_); clear hK))
  refine YL 3 3 1 rfl ?_
  obtain ⟨I, hI⟩ : ∃ I : Nat → AS → Prop, I = fun m' s => ∃ (j : Nat) (v : List Int) (M : AH), m' = l.length - j ∧ j ≤ l.length ∧ ded [] (XD l) = ded v (XD (l.drop j)) ∧ v.length + ndsL (l.drop j) ≤ 1000000 ∧ s.tm 0 = .sl 4 (avs l) none ∧ s.tm 3 = .sl 1 (ints v) (some h.length) ∧ s.tm 4 = .i j ∧ s.h = h ++ ([.grow 3 1 v.length] ++ M) := ⟨_, rfl⟩; refine Q4 I ?_ (m := l.length) ?_
  · intro m' s hs; rw [hI] at hs; obtain ⟨tm, hp⟩ := s; dsimp only at hs; obtain ⟨j, v, M, rfl, hj, hw, hv, t0, t3, t4, rfl⟩ := hs
    by_cases hlt : j < l.length
    · rw [List.drop_eq_getElem_cons hlt] at hw hv
      simp only [XD, Y8] at hw
      simp only [ndsL] at hv
      have hcc := fun L => Qap (Qh7 h 3 1) 1000000 (Nat.le_refl _) l[j] v L (Nat.le_trans (Qak hlt) (by omega)) (by omega)
      simp only [List.append_assoc, List.cons_append, List.nil_append] at hcc
      have hdl := Y7 v (l[j]).vars
      have hvl := T.Qj5 l[j]
      repeat (first | ((first | (with_reducible (first | refine Qa fun K E hK hE => ?_ | refine Qn fun K E hK hE => ?_ | refine FunW.ret (FunW.call (hcc _)) ?_))); simp -implicitDefEqProofs only [Qf, Qb, Qi, OpW, QW, aop, AS.ev, Qc, Qq, Qm, ↓reduceIte, List.length_cons, List.length_nil, Nat.reduceAdd, Nat.reduceLT, Nat.reduceEqDiff, Nat.zero_add, and_self, QI, QJ, QL, aBin, aLen, Option.map_some, List.map_cons, List.map_nil, List.cons_append, List.nil_append, QY, Xj, goInt, decide_true, Int.toNat_natCast, Int.natCast_nonneg, Int.ofNat_lt, T.Qj2, T.Qj4, QG, ei44, un44, ti69, t0, t3, t4, hlt, Zc hlt]) | (with_reducible (first | refine Qh fun K hK => ?_ | refine Qk ?_ | refine Qt ?_ | refine Qe ?_ | refine Qs ?_)) | ((with_reducible refine hK _ ?_); clear hK) | (refine Qj rfl ?_; simp only [↓reduceIte]))
      refine XE.mk (m' := l.length - (j + 1)) (by omega) ?_
      rw [hI]
      refine ⟨j + 1, _, _, rfl, hlt, hw, by omega, t0, rfl, ?_, rfl⟩
      simp only [upd, ↓reduceIte]
      rw [Xf (by omega)]
    · have hjl : j = l.length := by omega
      rw [hjl, List.drop_length] at hw
      simp only [XD, ded] at hw
      repeat (first | (((with_reducible refine Qa fun K E hK hE => ?_)); simp -implicitDefEqProofs only [Qf, Qb, Qi, OpW, aop, AS.ev, Qc, Qm, ↓reduceIte, Nat.reduceLT, Nat.reduceEqDiff, aBin, aLen, Option.map_some, List.cons_append, List.nil_append, QY, goInt, decide_false, Int.ofNat_lt, QG, un44, t0, t3, t4, hlt]) | (with_reducible (first | refine Qh fun K hK => ?_ | refine Qo ?_ | refine Q1 ?_ | refine Qe ?_ | refine QS ?_ | refine QR ?_)) | ((with_reducible refine hK _ ?_); clear hK) | (clear hK; (with_reducible refine hK _ ?_); clear hK) | (refine Qj rfl ?_; simp only [↓reduceIte, Bool.false_eq_true]))
      simp only [QO, Qp, Qv, upd, ↓reduceIte, Option.some.injEq, exists_eq_left']
      exact Qd (htake _ _) (.tok (QaP _ _)) ⟨by rw [hw], rfl⟩
  · rw [hI]
    exact ⟨0, [], [], by omega, Nat.zero_le _, rfl, by simpa using hn, rfl, rfl, rfl, rfl⟩
end Go.Proofs.YtenheconhibonaaGreatDoor.Ab
set_option linter.unusedSimpArgs false
set_option linter.unusedVariables false
set_option maxHeartbeats 4000000
set_option maxRecDepth 4000
namespace Go.Proofs.YtenheconhibonaaGreatDoor.Ab
open Go.Proofs
def Ye (l : List G) : List T := l.flatMap G.args
def YC (r : Rl) : List T := Ye r.keep ++ (Ye r.remove ++ (Ye r.guard ++ Ye r.body))
theorem Qdd (r : Rl) (h1 : r.keep.length ≤ 1000000) (h2 : r.remove.length ≤ 1000000) (h3 : r.guard.length ≤ 1000000) (h4 : r.body.length ≤ 1000000) (hn : (YC r).length ≤ 1000000) :
    Pure Tryz.prog 21 [r.av] (.sl 4 (avs (YC r)) none) := by
  intro h
  refine Qg Tryz.func21 rfl Tryz.call21 Tryz.ntmps21 (congrArg Array.toList Tryz.results21) (by simp) ?_
  iterate 4 (try (first | (((with_reducible refine Qa fun K E hK hE => ?_)); simp -implicitDefEqProofs only [Qf, Qb, Qi, OpW, aop, undef, AS.ev, Qc, Xo, QC, List.getD_cons_zero, AV.Qj3, List.all_cons, List.all_nil, QB, Qw, QH, Bool.and_self, ↓reduceIte, List.length_cons, List.length_nil, Nat.reduceAdd, Nat.reduceLT, Nat.zero_add, Rl.cells]) | ((with_reducible refine hK _ ?_); clear hK)))
  refine YL 3 69 4 rfl ?_
  repeat (first | (((with_reducible refine Qa fun K E hK hE => ?_)); simp -implicitDefEqProofs only [Qf, Qb, Qi, OpW, aop, AS.ev, Qc, Qq, List.length_cons, List.length_nil, Nat.reduceLT, Nat.zero_add, hlen, happ, List.cons_append, List.nil_append]) | (with_reducible (first | refine Qh fun K hK => ?_ | refine Qk ?_)) | ((with_reducible refine hK _ ?_); clear hK))
  obtain ⟨I, hI⟩ : ∃ I : Nat → AS → Prop, I = fun m' s => ∃ (k : Nat) (out : List T), m' = r.keep.length - k ∧ k ≤ r.keep.length ∧ out ++ (Ye (r.keep.drop k) ++ (Ye r.remove ++ (Ye r.guard ++ Ye r.body))) = YC r ∧ s.tm 1 = .ptr h.length 0 0 ∧ s.tm 3 = .sl 4 (avs out) (some (h.length + 1)) ∧ s.tm 4 = .i k ∧ s.h = h ++ [.cells 25 6 [r.av], .grow 69 4 out.length] := ⟨_, rfl⟩; refine Q4 I ?_ (m := r.keep.length) ?_
  rotate_left
  · rw [hI]
    exact ⟨0, [], rfl, by omega, rfl, rfl, rfl, rfl, rfl⟩
  intro m' s hs; rw [hI] at hs; obtain ⟨tm, hp⟩ := s; dsimp only at hs; obtain ⟨k, out, rfl, hk, he, t1, t3, tk, rfl⟩ := hs
  by_cases hlt : k < r.keep.length
  · have hg := YG G.atom hlt
    have z1 : (k : Int) < r.keep.length := by omega
    have hd1 : Ye (r.keep.drop k) = r.keep[k].args ++ Ye (r.keep.drop (k + 1)) := by rw [List.drop_eq_getElem_cons hlt]; rfl
    rw [hd1] at he
    have hlen2 := congrArg List.length he
    simp only [List.length_append] at hlen2
    have hb1 : out.length + r.keep[k].args.length ≤ maxLen := by simp only [maxLen]; omega
    have hb2 : (out.length + r.keep[k].args.length) * 56 ≤ 140737488355328 := by omega
    repeat (first | ((first | (with_reducible (first | refine Qa fun K E hK hE => ?_ | refine Qn fun K E hK hE => ?_))); simp -implicitDefEqProofs only [Qf, Qb, Qi, OpW, aop, AS.ev, Qc, Qq, Qm, ↓reduceIte, Nat.reduceLT, Nat.reduceEqDiff, Nat.zero_add, and_self, Ql, QI, QJ, QL, aBin, aLen, YD, Zd, QX, hget, hset, List.getElem?_cons_zero, List.getElem?_cons_succ, List.set_cons_zero, List.set_cons_succ, Option.map_some, QY, Xj, goInt, decide_true, Int.toNat_natCast, Int.natCast_nonneg, QG, ti22, ei22, un22, XY, ti44, ai44, Zi, t1, t3, tk, z1, hg, hb1, hb2, QG, QF, Rl.cells, XI]) | (with_reducible (first | refine Qh fun K hK => ?_ | refine Qk ?_ | refine Qt ?_ | refine Qe ?_ | refine Qs ?_)) | ((with_reducible refine hK _ ?_); clear hK) | (refine Qj rfl ?_; simp only [↓reduceIte]))
    refine XE.mk (m' := r.keep.length - (k + 1)) (by omega) ?_
    rw [hI]
    refine ⟨k + 1, out ++ r.keep[k].args, rfl, hlt, by simp only [List.append_assoc] at he ⊢; exact he, t1, ?_, ?_, by rw [List.length_append]⟩
    · rw [Z7]; rfl
    · simp only [upd, ↓reduceIte]
      rw [Xf (by omega)]
  have hkn : k = r.keep.length := by omega
  subst hkn
  have z : ¬ ((r.keep.length : Nat) : Int) < r.keep.length := by omega
  rw [List.drop_length, show Ye [] = [] from rfl, List.nil_append] at he
  clear hlt hk
  -- next
  repeat (first | (((with_reducible refine Qa fun K E hK hE => ?_)); simp -implicitDefEqProofs only [Qf, Qb, Qi, OpW, aop, AS.ev, Qc, Qq, Qm, ↓reduceIte, Nat.reduceLT, Nat.reduceEqDiff, Nat.zero_add, Ql, QI, QJ, aBin, aLen, QX, List.getElem?_cons_zero, List.getElem?_cons_succ, Option.map_some, QY, goInt, decide_false, ti22, un22, XY, t1, tk, z, Rl.cells, QF]) | (with_reducible (first | refine Qh fun K hK => ?_ | refine Qk ?_ | refine Q1 ?_ | refine Qe ?_ | refine QS ?_ | refine QR ?_)) | ((with_reducible refine hK _ ?_); clear hK) | (clear hK; (with_reducible refine hK _ ?_); clear hK) | (refine Qj rfl ?_; simp only [↓reduceIte, Bool.false_eq_true]))
  obtain ⟨I, hI⟩ : ∃ I : Nat → AS → Prop, I = fun m' s => ∃ (k : Nat) (out : List T), m' = r.remove.length - k ∧ k ≤ r.remove.length ∧ out ++ (Ye (r.remove.drop k) ++ (Ye r.guard ++ Ye r.body)) = YC r ∧ s.tm 1 = .ptr h.length 0 0 ∧ s.tm 3 = .sl 4 (avs out) (some (h.length + 1)) ∧ s.tm 5 = .i k ∧ s.h = h ++ [.cells 25 6 [r.av], .grow 69 4 out.length] := ⟨_, rfl⟩; refine Q4 I ?_ (m := r.remove.length) ?_
  rotate_left
  · rw [hI]
    exact ⟨0, out, rfl, by omega, by first | exact he | (rw [List.append_nil]; exact he), t1, t3, rfl, rfl⟩
  intro m' s hs; rw [hI] at hs; obtain ⟨tm, hp⟩ := s; dsimp only at hs; obtain ⟨k, out, rfl, hk, he, t1, t3, tk, rfl⟩ := hs
  by_cases hlt : k < r.remove.length
  · have hg := YG G.atom hlt
    have z1 : (k : Int) < r.remove.length := by omega
    have hd1 : Ye (r.remove.drop k) = r.remove[k].args ++ Ye (r.remove.drop (k + 1)) := by rw [List.drop_eq_getElem_cons hlt]; rfl
    rw [hd1] at he
    have hlen2 := congrArg List.length he
    simp only [List.length_append] at hlen2
    have hb1 : out.length + r.remove[k].args.length ≤ maxLen := by simp only [maxLen]; omega
    have hb2 : (out.length + r.remove[k].args.length) * 56 ≤ 140737488355328 := by omega
    repeat (first | ((first | (with_reducible (first | refine Qa fun K E hK hE => ?_ | refine Qn fun K E hK hE => ?_))); simp -implicitDefEqProofs only [Qf, Qb, Qi, OpW, aop, AS.ev, Qc, Qq, Qm, ↓reduceIte, Nat.reduceLT, Nat.reduceEqDiff, Nat.zero_add, and_self, Ql, QI, QJ, QL, aBin, aLen, YD, Zd, QX, hget, hset, List.getElem?_cons_zero, List.getElem?_cons_succ, List.set_cons_zero, List.set_cons_succ, Option.map_some, QY, Xj, goInt, decide_true, Int.toNat_natCast, Int.natCast_nonneg, QG, ti22, ei22, un22, X1, ti44, ai44, Zi, t1, t3, tk, z1, hg, hb1, hb2, QG, QF, Rl.cells, XI]) | (with_reducible (first | refine Qh fun K hK => ?_ | refine Qk ?_ | refine Qt ?_ | refine Qe ?_ | refine Qs ?_)) | ((with_reducible refine hK _ ?_); clear hK) | (refine Qj rfl ?_; simp only [↓reduceIte]))
    refine XE.mk (m' := r.remove.length - (k + 1)) (by omega) ?_
    rw [hI]
    refine ⟨k + 1, out ++ r.remove[k].args, rfl, hlt, by simp only [List.append_assoc] at he ⊢; exact he, t1, ?_, ?_, by rw [List.length_append]⟩
    · rw [Z7]; rfl
    · simp only [upd, ↓reduceIte]
      rw [Xf (by omega)]
  have hkn : k = r.remove.length := by omega
  subst hkn
  have z : ¬ ((r.remove.length : Nat) : Int) < r.remove.length := by omega
  rw [List.drop_length, show Ye [] = [] from rfl, List.nil_append] at he
  clear hlt hk
  -- next
  repeat (first | (((with_reducible refine Qa fun K E hK hE => ?_)); simp -implicitDefEqProofs only [Qf, Qb, Qi, OpW, aop, AS.ev, Qc, Qq, Qm, ↓reduceIte, Nat.reduceLT, Nat.reduceEqDiff, Nat.zero_add, Ql, QI, QJ, aBin, aLen, QX, List.getElem?_cons_zero, List.getElem?_cons_succ, Option.map_some, QY, goInt, decide_false, ti22, un22, X1, t1, tk, z, Rl.cells, QF]) | (with_reducible (first | refine Qh fun K hK => ?_ | refine Qk ?_ | refine Q1 ?_ | refine Qe ?_ | refine QS ?_ | refine QR ?_)) | ((with_reducible refine hK _ ?_); clear hK) | (clear hK; (with_reducible refine hK _ ?_); clear hK) | (refine Qj rfl ?_; simp only [↓reduceIte, Bool.false_eq_true]))
  obtain ⟨I, hI⟩ : ∃ I : Nat → AS → Prop, I = fun m' s => ∃ (k : Nat) (out : List T), m' = r.guard.length - k ∧ k ≤ r.guard.length ∧ out ++ (Ye (r.guard.drop k) ++ (Ye r.body)) = YC r ∧ s.tm 1 = .ptr h.length 0 0 ∧ s.tm 3 = .sl 4 (avs out) (some (h.length + 1)) ∧ s.tm 6 = .i k ∧ s.h = h ++ [.cells 25 6 [r.av], .grow 69 4 out.length] := ⟨_, rfl⟩; refine Q4 I ?_ (m := r.guard.length) ?_
  rotate_left
  · rw [hI]
    exact ⟨0, out, rfl, by omega, by first | exact he | (rw [List.append_nil]; exact he), t1, t3, rfl, rfl⟩
  intro m' s hs; rw [hI] at hs; obtain ⟨tm, hp⟩ := s; dsimp only at hs; obtain ⟨k, out, rfl, hk, he, t1, t3, tk, rfl⟩ := hs
  by_cases hlt : k < r.guard.length
  · have hg := YG G.goal hlt
    have z1 : (k : Int) < r.guard.length := by omega
    have hd1 : Ye (r.guard.drop k) = r.guard[k].args ++ Ye (r.guard.drop (k + 1)) := by rw [List.drop_eq_getElem_cons hlt]; rfl
    rw [hd1] at he
    have hlen2 := congrArg List.length he
    simp only [List.length_append] at hlen2
    have hb1 : out.length + r.guard[k].args.length ≤ maxLen := by simp only [maxLen]; omega
    have hb2 : (out.length + r.guard[k].args.length) * 56 ≤ 140737488355328 := by omega
    repeat (first | ((first | (with_reducible (first | refine Qa fun K E hK hE => ?_ | refine Qn fun K E hK hE => ?_))); simp -implicitDefEqProofs only [Qf, Qb, Qi, OpW, aop, AS.ev, Qc, Qq, Qm, ↓reduceIte, Nat.reduceLT, Nat.reduceEqDiff, Nat.zero_add, and_self, Ql, QI, QJ, QL, aBin, aLen, YD, Zd, QX, hget, hset, List.getElem?_cons_zero, List.getElem?_cons_succ, List.set_cons_zero, List.set_cons_succ, Option.map_some, QY, Xj, goInt, decide_true, Int.toNat_natCast, Int.natCast_nonneg, QG, ti23, ei23, un23, X5, ti44, ai44, Yg, t1, t3, tk, z1, hg, hb1, hb2, QG, QF, Rl.cells, Q2]) | (with_reducible (first | refine Qh fun K hK => ?_ | refine Qk ?_ | refine Qt ?_ | refine Qe ?_ | refine Qs ?_)) | ((with_reducible refine hK _ ?_); clear hK) | (refine Qj rfl ?_; simp only [↓reduceIte]))
    refine XE.mk (m' := r.guard.length - (k + 1)) (by omega) ?_
    rw [hI]
    refine ⟨k + 1, out ++ r.guard[k].args, rfl, hlt, by simp only [List.append_assoc] at he ⊢; exact he, t1, ?_, ?_, by rw [List.length_append]⟩
    · rw [Z7]; rfl
    · simp only [upd, ↓reduceIte]
      rw [Xf (by omega)]
  have hkn : k = r.guard.length := by omega
  subst hkn
  have z : ¬ ((r.guard.length : Nat) : Int) < r.guard.length := by omega
  rw [List.drop_length, show Ye [] = [] from rfl, List.nil_append] at he
  clear hlt hk
  -- next
  repeat (first | (((with_reducible refine Qa fun K E hK hE => ?_)); simp -implicitDefEqProofs only [Qf, Qb, Qi, OpW, aop, AS.ev, Qc, Qq, Qm, ↓reduceIte, Nat.reduceLT, Nat.reduceEqDiff, Nat.zero_add, Ql, QI, QJ, aBin, aLen, QX, List.getElem?_cons_zero, List.getElem?_cons_succ, Option.map_some, QY, goInt, decide_false, ti23, un23, X5, t1, tk, z, Rl.cells, QF]) | (with_reducible (first | refine Qh fun K hK => ?_ | refine Qk ?_ | refine Q1 ?_ | refine Qe ?_ | refine QS ?_ | refine QR ?_)) | ((with_reducible refine hK _ ?_); clear hK) | (clear hK; (with_reducible refine hK _ ?_); clear hK) | (refine Qj rfl ?_; simp only [↓reduceIte, Bool.false_eq_true]))
  obtain ⟨I, hI⟩ : ∃ I : Nat → AS → Prop, I = fun m' s => ∃ (k : Nat) (out : List T), m' = r.body.length - k ∧ k ≤ r.body.length ∧ out ++ (Ye (r.body.drop k) ++ ([])) = YC r ∧ s.tm 1 = .ptr h.length 0 0 ∧ s.tm 3 = .sl 4 (avs out) (some (h.length + 1)) ∧ s.tm 7 = .i k ∧ s.h = h ++ [.cells 25 6 [r.av], .grow 69 4 out.length] := ⟨_, rfl⟩; refine Q4 I ?_ (m := r.body.length) ?_
  rotate_left
  · rw [hI]
    exact ⟨0, out, rfl, by omega, by first | exact he | (rw [List.append_nil]; exact he), t1, t3, rfl, rfl⟩
  intro m' s hs; rw [hI] at hs; obtain ⟨tm, hp⟩ := s; dsimp only at hs; obtain ⟨k, out, rfl, hk, he, t1, t3, tk, rfl⟩ := hs
  by_cases hlt : k < r.body.length
  · have hg := YG G.goal hlt
    have z1 : (k : Int) < r.body.length := by omega
    have hd1 : Ye (r.body.drop k) = r.body[k].args ++ Ye (r.body.drop (k + 1)) := by rw [List.drop_eq_getElem_cons hlt]; rfl
    rw [hd1] at he
    have hlen2 := congrArg List.length he
    simp only [List.length_append] at hlen2
    have hb1 : out.length + r.body[k].args.length ≤ maxLen := by simp only [maxLen]; omega
    have hb2 : (out.length + r.body[k].args.length) * 56 ≤ 140737488355328 := by omega
    repeat (first | ((first | (with_reducible (first | refine Qa fun K E hK hE => ?_ | refine Qn fun K E hK hE => ?_))); simp -implicitDefEqProofs only [Qf, Qb, Qi, OpW, aop, AS.ev, Qc, Qq, Qm, ↓reduceIte, Nat.reduceLT, Nat.reduceEqDiff, Nat.zero_add, and_self, Ql, QI, QJ, QL, aBin, aLen, YD, Zd, QX, hget, hset, List.getElem?_cons_zero, List.getElem?_cons_succ, List.set_cons_zero, List.set_cons_succ, Option.map_some, QY, Xj, goInt, decide_true, Int.toNat_natCast, Int.natCast_nonneg, QG, ti23, ei23, un23, X9, ti44, ai44, Yg, t1, t3, tk, z1, hg, hb1, hb2, QG, QF, Rl.cells, Q2]) | (with_reducible (first | refine Qh fun K hK => ?_ | refine Qk ?_ | refine Qt ?_ | refine Qe ?_ | refine Qs ?_)) | ((with_reducible refine hK _ ?_); clear hK) | (refine Qj rfl ?_; simp only [↓reduceIte]))
    refine XE.mk (m' := r.body.length - (k + 1)) (by omega) ?_
    rw [hI]
    refine ⟨k + 1, out ++ r.body[k].args, rfl, hlt, by simp only [List.append_assoc] at he ⊢; exact he, t1, ?_, ?_, by rw [List.length_append]⟩
    · rw [Z7]; rfl
    · simp only [upd, ↓reduceIte]
      rw [Xf (by omega)]
  have hkn : k = r.body.length := by omega
  subst hkn
  have z : ¬ ((r.body.length : Nat) : Int) < r.body.length := by omega
  rw [List.drop_length, show Ye [] = [] from rfl, List.nil_append] at he
  clear hlt hk
  rw [List.append_nil] at he
  repeat (first | (((with_reducible refine Qa fun K E hK hE => ?_)); simp -implicitDefEqProofs only [Qf, Qb, Qi, OpW, aop, AS.ev, Qc, Qm, ↓reduceIte, Nat.reduceLT, Nat.reduceEqDiff, Nat.zero_add, Ql, QI, QJ, aBin, aLen, QX, List.getElem?_cons_zero, List.getElem?_cons_succ, Option.map_some, QY, goInt, decide_false, ti23, un23, X9, t1, t3, tk, z, Rl.cells, QF]) | (with_reducible (first | refine Qh fun K hK => ?_ | refine Qo ?_ | refine Q1 ?_ | refine Qe ?_ | refine QS ?_ | refine QR ?_)) | ((with_reducible refine hK _ ?_); clear hK) | (clear hK; (with_reducible refine hK _ ?_); clear hK) | (refine Qj rfl ?_; simp only [↓reduceIte, Bool.false_eq_true]))
  simp only [QO, Qp, Qv, upd, ↓reduceIte, Option.some.injEq, exists_eq_left']; first | refine Qd (htake _ _) (.tok (ZR _ _)) ⟨by rw [he], rfl⟩ | refine Qd List.take_length (.tok (ZR _ _)) ⟨by rw [he], rfl⟩
end Go.Proofs.YtenheconhibonaaGreatDoor.Ab
set_option linter.unusedSimpArgs false
set_option linter.unusedVariables false
set_option maxHeartbeats 4000000
set_option maxRecDepth 4000
namespace Go.Proofs.YtenheconhibonaaGreatDoor.Ab
open Go.Proofs
def sumI (n k : Int) : Int := if k > 0 ∧ n > 9223372036854775807 - k ∨ k < 0 ∧ n < -9223372036854775808 - k then n else n + k
theorem QiO (n k : Int) (hn : i64 n) (hk : i64 k) : Pure Tryz.prog 163 [.i n, .i k] (.i (sumI n k)) := by
  intro h
  unfold i64 at hn hk
  have w1 : k > 0 → IntKind.i64.wrap (9223372036854775807 - k) = 9223372036854775807 - k := fun h => XZ (by omega)
  have w2 : k < 0 → IntKind.i64.wrap (-9223372036854775808 - k) = -9223372036854775808 - k := fun h => XZ (by omega)
  by_cases k1 : k > 0
  · have w := w1 k1
    by_cases c1 : n > 9223372036854775807 - k
    · refine Qg Tryz.func163 rfl Tryz.call163 Tryz.ntmps163 (congrArg Array.toList Tryz.results163) (by simp) ?_
      repeat (first | (((with_reducible refine Qa fun K E hK hE => ?_)); simp -implicitDefEqProofs only [Qf, Qb, Qi, OpW, aop, undef, AS.ev, Qc, Qq, Qz, Qm, QC, List.getD_cons_zero, List.getD_cons_succ, Bool.not_true, ↓reduceIte, Nat.reduceLT, Nat.reduceEqDiff, aBin, List.getElem?_cons_zero, List.getElem?_cons_succ, Option.map_some, Option.bind_some, List.getElem?_toArray, Q6, Ys, decide_true, beq_self_eq_true, beq_false, k1, w, c1]) | (with_reducible (first | refine Qh fun K hK => ?_ | refine Qo ?_ | refine QA ?_)) | ((with_reducible refine hK _ ?_); clear hK) | (refine Qj rfl ?_; simp only [↓reduceIte]))
      simp only [QO, Qp, Qv, upd, ↓reduceIte, Option.some.injEq, exists_eq_left']; first | refine Qd (htake _ _) (.keep (.v _)) ⟨by rw [sumI, if_pos (by omega)], rfl⟩ | refine Qd List.take_length (.keep (.v _)) ⟨by rw [sumI, if_pos (by omega)], rfl⟩
    · have k2 : ¬ k < 0 := by omega
      have w3 : IntKind.i64.wrap (n + k) = n + k := XZ (by omega)
      refine Qg Tryz.func163 rfl Tryz.call163 Tryz.ntmps163 (congrArg Array.toList Tryz.results163) (by simp) ?_
      repeat (first | (((with_reducible refine Qa fun K E hK hE => ?_)); simp -implicitDefEqProofs only [Qf, Qb, Qi, OpW, aop, undef, AS.ev, Qc, Qq, Qz, Qm, QC, List.getD_cons_zero, List.getD_cons_succ, ↓reduceIte, Nat.reduceLT, Nat.reduceEqDiff, aBin, List.getElem?_cons_zero, List.getElem?_cons_succ, Option.map_some, Option.bind_some, List.getElem?_toArray, QY, Q6, Xj, Ys, decide_true, decide_false, beq_self_eq_true, Bool.false_eq_true, beq_true, k1, k2, w, w3, c1]) | (with_reducible (first | refine Qh fun K hK => ?_ | refine Qo ?_ | refine Qt ?_ | refine Qe ?_)) | ((with_reducible refine hK _ ?_); clear hK) | (refine Qj rfl ?_; simp only [↓reduceIte, Bool.false_eq_true]))
      simp only [QO, Qp, Qv, upd, ↓reduceIte, Option.some.injEq, exists_eq_left']; first | refine Qd (htake _ _) (.keep (.v _)) ⟨by rw [sumI, if_neg (by omega)], rfl⟩ | refine Qd List.take_length (.keep (.v _)) ⟨by rw [sumI, if_neg (by omega)], rfl⟩
  · by_cases k2 : k < 0
    · have w := w2 k2
      by_cases c1 : n < -9223372036854775808 - k
      · refine Qg Tryz.func163 rfl Tryz.call163 Tryz.ntmps163 (congrArg Array.toList Tryz.results163) (by simp) ?_
        repeat (first | (((with_reducible refine Qa fun K E hK hE => ?_)); simp -implicitDefEqProofs only [Qf, Qb, Qi, OpW, aop, undef, AS.ev, Qc, Qq, Qz, Qm, QC, List.getD_cons_zero, List.getD_cons_succ, ↓reduceIte, Nat.reduceLT, Nat.reduceEqDiff, aBin, List.getElem?_cons_zero, List.getElem?_cons_succ, Option.map_some, Option.bind_some, List.getElem?_toArray, QY, Q6, Ys, decide_true, decide_false, beq_self_eq_true, Bool.false_eq_true, beq_true, k1, k2, w, c1]) | (with_reducible (first | refine Qh fun K hK => ?_ | refine Qo ?_ | refine QA ?_)) | ((with_reducible refine hK _ ?_); clear hK) | (refine Qj rfl ?_; simp only [↓reduceIte]))
        simp only [QO, Qp, Qv, upd, ↓reduceIte, Option.some.injEq, exists_eq_left']; first | refine Qd (htake _ _) (.keep (.v _)) ⟨by rw [sumI, if_pos (by omega)], rfl⟩ | refine Qd List.take_length (.keep (.v _)) ⟨by rw [sumI, if_pos (by omega)], rfl⟩
      · have w3 : IntKind.i64.wrap (n + k) = n + k := XZ (by omega)
        refine Qg Tryz.func163 rfl Tryz.call163 Tryz.ntmps163 (congrArg Array.toList Tryz.results163) (by simp) ?_
        repeat (first | (((with_reducible refine Qa fun K E hK hE => ?_)); simp -implicitDefEqProofs only [Qf, Qb, Qi, OpW, aop, undef, AS.ev, Qc, Qq, Qz, Qm, QC, List.getD_cons_zero, List.getD_cons_succ, ↓reduceIte, Nat.reduceLT, Nat.reduceEqDiff, aBin, List.getElem?_cons_zero, List.getElem?_cons_succ, Option.map_some, Option.bind_some, List.getElem?_toArray, QY, Q6, Xj, Ys, decide_true, decide_false, beq_self_eq_true, Bool.false_eq_true, beq_true, k1, k2, w, w3, c1]) | (with_reducible (first | refine Qh fun K hK => ?_ | refine Qo ?_ | refine Qt ?_ | refine Qe ?_)) | ((with_reducible refine hK _ ?_); clear hK) | (refine Qj rfl ?_; simp only [↓reduceIte, Bool.false_eq_true]))
        simp only [QO, Qp, Qv, upd, ↓reduceIte, Option.some.injEq, exists_eq_left']; first | refine Qd (htake _ _) (.keep (.v _)) ⟨by rw [sumI, if_neg (by omega)], rfl⟩ | refine Qd List.take_length (.keep (.v _)) ⟨by rw [sumI, if_neg (by omega)], rfl⟩
    · have w3 : IntKind.i64.wrap (n + k) = n + k := XZ (by omega)
      refine Qg Tryz.func163 rfl Tryz.call163 Tryz.ntmps163 (congrArg Array.toList Tryz.results163) (by simp) ?_
      repeat (first | (((with_reducible refine Qa fun K E hK hE => ?_)); simp -implicitDefEqProofs only [Qf, Qb, Qi, OpW, aop, undef, AS.ev, Qc, Qq, Qz, Qm, QC, List.getD_cons_zero, List.getD_cons_succ, ↓reduceIte, Nat.reduceLT, Nat.reduceEqDiff, aBin, List.getElem?_cons_zero, List.getElem?_cons_succ, Option.map_some, Option.bind_some, List.getElem?_toArray, QY, Q6, Xj, decide_false, beq_self_eq_true, Bool.false_eq_true, beq_true, k1, k2, w3]) | (with_reducible (first | refine Qh fun K hK => ?_ | refine Qo ?_ | refine Qt ?_ | refine Qe ?_)) | ((with_reducible refine hK _ ?_); clear hK) | (refine Qj rfl ?_; simp only [↓reduceIte, Bool.false_eq_true]))
      simp only [QO, Qp, Qv, upd, ↓reduceIte, Option.some.injEq, exists_eq_left']; first | refine Qd (htake _ _) (.keep (.v _)) ⟨by rw [sumI, if_neg (by omega)], rfl⟩ | refine Qd List.take_length (.keep (.v _)) ⟨by rw [sumI, if_neg (by omega)], rfl⟩
theorem T.map_eq (g : Int → Int) (t : T) : t.map g = if t.kind = 1 then .mk t.kind (g t.int) t.name t.args else if t.kind = 2 then .mk t.kind t.int t.name (maps g t.args) else t := by
  cases t; simp only [T.map, T.kind, T.int, T.name, T.args]; rfl
theorem ZP (g : Int → Int) : ∀ l : List T, maps g l = l.map (T.map g)
  | [] => rfl
  | t :: l => by simp only [maps, List.map_cons, ZP g l]
theorem Qc2 {g : Int → Int} {l : List T} {k : Nat} (h : k < l.length) : maps g (l.take (k + 1)) = maps g (l.take k) ++ [(l[k]).map g] := by
  rw [ZP, ZP, List.take_succ_eq_append_getElem h, List.map_append]; rfl
theorem ZN (n : Nat) (k : Int) (ih : ∀ t : T, t.nds ≤ n → t.ok → Pure Tryz.prog 140 [t.av, .i k] (t.map fun v => sumI v k).av) (l : List T) (hn : ndsL l ≤ n) (hb : n ≤ 1000000) (ho : oks l) :
    Pure Tryz.prog 104 [.sl 4 (avs l) none, .i k] (.sl 4 (avs (maps (fun v => sumI v k) l)) none) := by
  intro h
  have hll := XA l
  refine Qg Tryz.func104 rfl Tryz.call104 Tryz.ntmps104 (congrArg Array.toList Tryz.results104) (by simp) ?_
  repeat (first | (((with_reducible refine Qa fun K E hK hE => ?_)); simp -implicitDefEqProofs only [Qf, Qb, Qi, OpW, aop, AS.ev, Qc, Qq, Xo, Nat.reduceLT]) | (with_reducible (first | refine Qh fun K hK => ?_ | refine Qk ?_)) | ((with_reducible refine hK _ ?_); clear hK))
  refine YL 5 69 4 rfl ?_
  obtain ⟨I, hI⟩ : ∃ I : Nat → AS → Prop, I = fun m' s => ∃ (j : Nat) (L : AH), m' = l.length - j ∧ j ≤ l.length ∧ s.tm 0 = .sl 4 (avs l) none ∧ s.tm 1 = .i k ∧ s.tm 5 = .sl 4 (avs (maps (fun v => sumI v k) (l.take j))) (some h.length) ∧ s.tm 6 = .i j ∧ s.h = h ++ ([.grow 69 4 j] ++ L) := ⟨_, rfl⟩; refine Q4 I ?_ (m := l.length) ?_
  · intro m' s hs; rw [hI] at hs; obtain ⟨tm, hp⟩ := s; dsimp only at hs; obtain ⟨j, L, rfl, hj, t0, t1, t5, t6, rfl⟩ := hs
    by_cases hlt : j < l.length
    · have hc := ih l[j] (Nat.le_trans (Qak hlt) hn) (QfP hlt ho)
      have hml : (maps (fun v => sumI v k) (l.take j)).length = j := by rw [ZP, List.length_map, List.length_take]; omega
      have hb1 : j + 1 ≤ maxLen := by simp only [maxLen]; omega
      have hb2 : (j + 1) * 56 ≤ 140737488355328 := by omega
      repeat (first | ((first | (with_reducible (first | refine Qa fun K E hK hE => ?_ | refine Qn fun K E hK hE => ?_ | refine Qy hc ?_))); simp -implicitDefEqProofs only [Qf, Qb, Qi, OpW, QW, aop, AS.ev, Qc, Qq, Qm, AV.Qj3, Qr, List.all_cons, List.all_nil, QB, Qw, QN, QH, Bool.and_self, ↓reduceIte, List.length_cons, List.length_nil, Nat.reduceAdd, Nat.reduceLT, Nat.reduceLeDiff, Nat.reduceEqDiff, Nat.reduceMul, Nat.zero_add, and_self, QI, QJ, QL, aBin, Q5, aLen, YD, Zd, QX, X0, List.getElem?_cons_zero, List.set_cons_zero, Option.map_some, List.map_cons, List.map_nil, List.cons_append, List.nil_append, QY, Xj, goInt, decide_true, beq_self_eq_true, Int.toNat_natCast, Int.natCast_nonneg, Int.ofNat_lt, rng1, Xa, Nat.reducePow, T.Qj2, T.Qj4, QG, ei44, ai44, un44, ti69, zi69, t0, t1, t5, t6, hlt, Zc hlt, hml, hb1, hb2]) | (with_reducible (first | refine Qh fun K hK => ?_ | refine Qk ?_ | refine Qt ?_ | refine Qe ?_ | refine Qs ?_)) | ((with_reducible refine hK _ ?_); clear hK) | (refine Qj rfl ?_; simp only [↓reduceIte]))
      refine XE.mk (m' := l.length - (j + 1)) (by omega) ?_
      rw [hI]
      refine ⟨j + 1, L, rfl, hlt, t0, t1, ?_, ?_, rfl⟩
      · simp only [upd, ↓reduceIte, Nat.reduceEqDiff]
        rw [Qc2 hlt, Z7, Qhx]
      · simp only [upd, ↓reduceIte]
        rw [Xf (by omega)]
    · have hjl : j = l.length := by omega
      repeat (first | (((with_reducible refine Qa fun K E hK hE => ?_)); simp -implicitDefEqProofs only [Qf, Qb, Qi, OpW, aop, AS.ev, Qc, Qm, ↓reduceIte, Nat.reduceLT, Nat.reduceEqDiff, aBin, aLen, Option.map_some, List.cons_append, List.nil_append, QY, goInt, decide_false, Int.ofNat_lt, QG, un44, t0, t5, t6, hlt]) | (with_reducible (first | refine Qh fun K hK => ?_ | refine Qo ?_ | refine Q1 ?_ | refine Qe ?_ | refine QS ?_ | refine QR ?_)) | ((with_reducible refine hK _ ?_); clear hK) | (clear hK; (with_reducible refine hK _ ?_); clear hK) | (refine Qj rfl ?_; simp only [↓reduceIte, Bool.false_eq_true]))
      simp only [QO, Qp, Qv, upd, ↓reduceIte, Option.some.injEq, exists_eq_left']; first | refine Qd (htake _ _) (.tok (ZR _ _)) ⟨by rw [hjl, List.take_length], rfl⟩ | refine Qd List.take_length (.tok (ZR _ _)) ⟨by rw [hjl, List.take_length], rfl⟩
  · rw [hI]
    exact ⟨0, [], by omega, Nat.zero_le _, rfl, rfl, rfl, rfl, rfl⟩
theorem Qah (k : Int) (hk : i64 k) : ∀ n, n ≤ 1000000 → ∀ t : T, t.nds ≤ n → t.ok → Pure Tryz.prog 140 [t.av, .i k] (t.map fun v => sumI v k).av
  | 0, _, t, hn, _ => by have := T.Qj7 t; omega
  | n + 1, hb, t, hn, ho => by
    intro h
    have e := T.map_eq (fun v => sumI v k) t
    obtain ⟨o1, o2, o3, o4⟩ := (T.ok_eq t).1 ho
    have hnd := T.Qj7 t
    have c1 := QiO t.int k o2 hk
    have c2 := ZN n k (Qah k hk n (by omega)) t.args (by omega) (by omega) o4
    by_cases h1 : t.kind = 1
    · have b1 : (t.kind == 1) = true := by simpa using h1
      rw [if_pos h1] at e
      refine Qg Tryz.func140 rfl Tryz.call140 Tryz.ntmps140 (congrArg Array.toList Tryz.results140) (by simp) ?_
      repeat (first | ((first | (with_reducible (first | refine Qa fun K E hK hE => ?_ | refine Qn fun K E hK hE => ?_ | refine Qy c1 ?_))); simp -implicitDefEqProofs only [Qf, Qb, Qi, OpW, QW, aop, undef, AS.ev, Qc, QV, Qq, Qm, QC, List.getD_cons_zero, List.getD_cons_succ, AV.Qj3, Qr, Q3, QD, Xt, List.all_cons, List.all_nil, QB, Qw, QN, QH, Bool.and_self, ↓reduceIte, List.length_cons, List.length_nil, Nat.reduceAdd, Nat.reduceLT, Nat.reduceLeDiff, Nat.reduceEqDiff, Nat.zero_add, Nat.add_zero, and_self, Ql, QI, QJ, Xb, QZ, aBin, QX, hget, X0, hset, hlen, happ, List.getElem?_cons_zero, List.getElem?_cons_succ, List.set_cons_zero, List.set_cons_succ, Option.map_some, List.map_cons, List.map_nil, List.cons_append, List.nil_append, List.take_succ_cons, List.take_zero, List.drop_succ_cons, List.drop_zero, QU, Bool.false_eq_true, T.Qj2, T.Qj4, ti3, ti69, Xw, Ya, zi69, b1]) | (with_reducible (first | refine Qh fun K hK => ?_ | refine Qk ?_ | refine Qo ?_ | refine Qe ?_ | refine Qs ?_)) | ((with_reducible refine hK _ ?_); clear hK) | (refine Qj rfl ?_; simp only [↓reduceIte]))
      simp -implicitDefEqProofs only [Qm, Qr, QD, ↓reduceIte, List.length_cons, List.length_nil, Nat.reduceAdd, Nat.reduceEqDiff, Nat.zero_add, and_self, QI, QJ, hget, List.getElem?_cons_zero, List.getElem?_cons_succ, Option.some.injEq, ti69, QO, Qp, Qv, exists_eq_left']
      rw [T.Qkf]
      exact Qd (htake _ _) (.keep (T.Qj6 _ _)) ⟨by rw [e], rfl⟩
    · have b1 : (t.kind == 1) = false := by simpa using h1
      rw [if_neg h1] at e
      by_cases h2 : t.kind = 2
      · have b2 : (t.kind == 2) = true := by simpa using h2
        rw [if_pos h2] at e
        refine Qg Tryz.func140 rfl Tryz.call140 Tryz.ntmps140 (congrArg Array.toList Tryz.results140) (by simp) ?_
        repeat (first | ((first | (with_reducible (first | refine Qa fun K E hK hE => ?_ | refine Qn fun K E hK hE => ?_ | refine Qy c2 ?_))); simp -implicitDefEqProofs only [Qf, Qb, Qi, OpW, QW, aop, undef, AS.ev, Qc, QV, Qq, Qm, QC, List.getD_cons_zero, List.getD_cons_succ, AV.Qj3, Qr, Xp, QD, XT, List.all_cons, List.all_nil, QB, Qw, QN, QH, Bool.and_self, ↓reduceIte, List.length_cons, List.length_nil, Nat.reduceAdd, Nat.reduceLT, Nat.reduceLeDiff, Nat.reduceEqDiff, Nat.zero_add, Nat.add_zero, and_self, Ql, QI, QJ, Xb, QZ, aBin, QX, hget, X0, hset, hlen, happ, List.getElem?_cons_zero, List.getElem?_cons_succ, List.set_cons_zero, List.set_cons_succ, Option.map_some, List.map_cons, List.map_nil, List.cons_append, List.nil_append, List.append_nil, List.take_succ_cons, List.take_zero, List.drop_succ_cons, List.drop_zero, QU, Bool.false_eq_true, T.Qj2, T.Qj4, ti3, ti44, ti69, Xw, XL, zi69, b1, b2]) | (with_reducible (first | refine Qh fun K hK => ?_ | refine Qk ?_ | refine Qo ?_ | refine Qe ?_ | refine Qs ?_)) | ((with_reducible refine hK _ ?_); clear hK) | (refine Qj rfl ?_; simp only [↓reduceIte, Bool.false_eq_true]))
        simp -implicitDefEqProofs only [Qm, Qr, QD, ↓reduceIte, List.length_cons, List.length_nil, Nat.reduceAdd, Nat.reduceEqDiff, Nat.zero_add, and_self, QI, QJ, hget, List.getElem?_cons_zero, List.getElem?_cons_succ, Option.some.injEq, ti69, QO, Qp, Qv, exists_eq_left']
        rw [T.Qkf]
        exact Qd (htake _ _) (.keep (T.Qj6 _ _)) ⟨by rw [e], rfl⟩
      · have b2 : (t.kind == 2) = false := by simpa using h2
        rw [if_neg h2] at e
        refine Qg Tryz.func140 rfl Tryz.call140 Tryz.ntmps140 (congrArg Array.toList Tryz.results140) (by simp) ?_
        repeat (first | (((with_reducible refine Qa fun K E hK hE => ?_)); simp -implicitDefEqProofs only [Qf, Qb, Qi, OpW, aop, undef, AS.ev, Qc, QV, Qq, Qm, QC, List.getD_cons_zero, AV.Qj3, Qr, QD, List.all_cons, List.all_nil, QB, Qw, QN, QH, Bool.and_self, ↓reduceIte, List.length_cons, List.length_nil, Nat.reduceAdd, Nat.reduceLT, Nat.reduceEqDiff, Nat.zero_add, Nat.add_zero, and_self, Ql, QI, QJ, Xb, QZ, aBin, QX, hget, hset, hlen, happ, List.getElem?_cons_zero, List.getElem?_cons_succ, List.set_cons_zero, List.set_cons_succ, Option.map_some, List.cons_append, List.nil_append, QU, T.Qj2, T.Qj4, ti3, ti69, Xw, zi69, b1, b2]) | (with_reducible (first | refine Qh fun K hK => ?_ | refine Qk ?_ | refine Qo ?_ | refine Qt ?_ | refine Qe ?_ | refine Qs ?_)) | ((with_reducible refine hK _ ?_); clear hK) | (refine Qj rfl ?_; simp only [↓reduceIte, Bool.false_eq_true]))
        simp -implicitDefEqProofs only [Qm, ↓reduceIte, List.length_cons, List.length_nil, Nat.reduceAdd, Nat.reduceEqDiff, Nat.zero_add, and_self, QI, QJ, hget, List.getElem?_cons_zero, List.getElem?_cons_succ, Option.some.injEq, T.Qj2, T.Qj4, ti69, QO, Qp, Qv, exists_eq_left']
        exact Qd (htake _ _) (.keep (T.Qj6 _ _)) ⟨by rw [e], rfl⟩
def G.mapV (f : Int → Int) (g : G) : G := { g with args := maps f g.args }
def Rl.mapV (f : Int → Int) (r : Rl) : Rl := ⟨r.name, r.keep.map (G.mapV f), r.remove.map (G.mapV f), r.guard.map (G.mapV f), r.body.map (G.mapV f), r.vars⟩
theorem Qb8 (l : List G) (k : Int) (hk : i64 k) (ho : ∀ g ∈ l, g.ok) (hn : gN l ≤ 1000000) : Pure Tryz.prog 63 [.sl 2 (vs G.atom l) none, .i k] (.sl 2 (vs G.atom (l.map (G.mapV fun v => sumI v k))) none) := by
  intro h
  have hll := QaM l
  refine Qg Tryz.func63 rfl Tryz.call63 Tryz.ntmps63 (congrArg Array.toList Tryz.results63) (by simp) ?_
  repeat (first | (((with_reducible refine Qa fun K E hK hE => ?_)); simp -implicitDefEqProofs only [Qf, Qb, Qi, OpW, aop, AS.ev, Qc, Qq, Xo, Nat.reduceLT]) | (with_reducible (first | refine Qh fun K hK => ?_ | refine Qk ?_)) | ((with_reducible refine hK _ ?_); clear hK))
  refine YL 5 66 2 rfl ?_
  simp -implicitDefEqProofs only [Xc]
  obtain ⟨I, hI⟩ : ∃ I : Nat → AS → Prop, I = fun m' s => ∃ j : Nat, m' = l.length - j ∧ j ≤ l.length ∧ s.tm 0 = .sl 2 (vs G.atom l) none ∧ s.tm 1 = .i k ∧ s.tm 5 = .sl 2 (vs G.atom ((l.take j).map (G.mapV fun v => sumI v k))) (some h.length) ∧ s.tm 6 = .i j ∧ s.h = h ++ [.grow 66 2 j] := ⟨_, rfl⟩; refine Q4 I ?_ (m := l.length) ?_
  · intro m' s hs; rw [hI] at hs; obtain ⟨tm, hp⟩ := s; dsimp only at hs; obtain ⟨j, rfl, hj, t0, t1, t5, t6, rfl⟩ := hs
    by_cases hlt : j < l.length
    · obtain ⟨o1, o2, o3⟩ := ho _ (List.getElem_mem hlt)
      have hc := ZN 1000000 k (Qah k hk 1000000 (Nat.le_refl _)) l[j].args (Nat.le_trans (Qfd hlt) hn) (Nat.le_refl _) o3
      have hml : ((l.take j).map (G.mapV fun v => sumI v k)).length = j := by rw [List.length_map, List.length_take]; omega
      have hb1 : j + 1 ≤ maxLen := by simp only [maxLen]; omega
      have hb2 : (j + 1) * 40 ≤ 140737488355328 := by omega
      repeat (first | ((first | (with_reducible (first | refine Qa fun K E hK hE => ?_ | refine Qn fun K E hK hE => ?_ | refine QP hc ?_)) | (refine Xv (id := 5) [(0, 0), (1, 0), (2, 0), (3, 0), (4, 0), (5, 0), (6, 0), (7, 0), (8, 0), (9, 0), (10, 0), (11, 0), (12, 1), (13, 0), (14, 0), (15, 2), (16, 0)] mixed (by kernel_rfl) fun K hK => ?_)); simp -implicitDefEqProofs only [Xc, Q7, Xn, Qf, Qb, Qi, OpW, aop, AS.ev, Qc, Qq, Qm, AV.Qj3, Qr, Q3, Xp, QD, List.all_cons, List.all_nil, Qw, QN, QH, Bool.and_self, ↓reduceIte, List.length_cons, List.length_nil, Nat.reduceAdd, Nat.reduceLT, Nat.reduceLeDiff, Nat.reduceEqDiff, Nat.reduceMul, Nat.zero_add, Nat.add_zero, and_self, Ql, QI, QJ, QL, aBin, Za, Zm, Q5, aLen, YD, Zd, QX, X0, List.getElem?_cons_zero, List.getElem?_cons_succ, List.set_cons_zero, Option.map_some, List.getElem?_toArray, List.map_cons, List.map_nil, List.cons_append, List.nil_append, List.append_nil, List.take_succ_cons, List.take_zero, List.drop_succ_cons, List.drop_zero, QY, Xj, goInt, decide_true, beq_self_eq_true, Int.toNat_natCast, Int.natCast_nonneg, Int.ofNat_lt, rng1, Xa, Nat.reducePow, ti9, ei22, ai22, un22, ti44, ZB, Zi, zi66, sp66, t0, t1, t5, t6, hlt, QF, YG G.atom hlt, XI, hml, hb1, hb2]) | (with_reducible (first | refine Qh fun K hK => ?_ | refine Qk ?_ | refine Qt ?_ | refine Qe ?_ | refine Qs ?_)) | ((with_reducible refine hK _ ?_); clear hK) | (refine Qj rfl ?_; simp only [↓reduceIte]))
      refine XE.mk (m' := l.length - (j + 1)) (by omega) ?_
      rw [hI]
      refine ⟨j + 1, rfl, hlt, t0, t1, ?_, ?_, rfl⟩
      · simp only [upd, ↓reduceIte, Nat.reduceEqDiff]
        rw [List.take_succ_eq_append_getElem hlt, List.map_append, Qau]
        rfl
      · simp only [upd, ↓reduceIte]
        rw [Xf (by omega)]
    · have hjl : j = l.length := by omega
      repeat (first | (((with_reducible refine Qa fun K E hK hE => ?_)); simp -implicitDefEqProofs only [Qf, Qb, Qi, OpW, aop, AS.ev, Qc, Qm, ↓reduceIte, Nat.reduceLT, Nat.reduceEqDiff, aBin, aLen, Option.map_some, QY, goInt, decide_false, Int.ofNat_lt, un22, t0, t5, t6, hlt, QF]) | (with_reducible (first | refine Qh fun K hK => ?_ | refine Qo ?_ | refine Q1 ?_ | refine Qe ?_ | refine QS ?_ | refine QR ?_)) | ((with_reducible refine hK _ ?_); clear hK) | (clear hK; (with_reducible refine hK _ ?_); clear hK) | (refine Qj rfl ?_; simp only [↓reduceIte, Bool.false_eq_true]))
      simp only [QO, Qp, Qv, upd, ↓reduceIte, Option.some.injEq, exists_eq_left']; first | refine Qd (htake _ _) (.tok (QaO G.atom _ (ZE _) _)) ⟨by rw [hjl, List.take_length], rfl⟩ | refine Qd List.take_length (.tok (QaO G.atom _ (ZE _) _)) ⟨by rw [hjl, List.take_length], rfl⟩
  · rw [hI]
    exact ⟨0, by omega, Nat.zero_le _, rfl, rfl, rfl, rfl, rfl⟩
theorem Qb9 (l : List G) (k : Int) (hk : i64 k) (ho : ∀ g ∈ l, g.ok) (hn : gN l ≤ 1000000) : Pure Tryz.prog 64 [.sl 3 (vs G.goal l) none, .i k] (.sl 3 (vs G.goal (l.map (G.mapV fun v => sumI v k))) none) := by
  intro h
  have hll := QaM l
  refine Qg Tryz.func64 rfl Tryz.call64 Tryz.ntmps64 (congrArg Array.toList Tryz.results64) (by simp) ?_
  repeat (first | (((with_reducible refine Qa fun K E hK hE => ?_)); simp -implicitDefEqProofs only [Qf, Qb, Qi, OpW, aop, AS.ev, Qc, Qq, Xo, Nat.reduceLT]) | (with_reducible (first | refine Qh fun K hK => ?_ | refine Qk ?_)) | ((with_reducible refine hK _ ?_); clear hK))
  refine YL 5 53 3 rfl ?_
  simp -implicitDefEqProofs only [Xc]
  obtain ⟨I, hI⟩ : ∃ I : Nat → AS → Prop, I = fun m' s => ∃ j : Nat, m' = l.length - j ∧ j ≤ l.length ∧ s.tm 0 = .sl 3 (vs G.goal l) none ∧ s.tm 1 = .i k ∧ s.tm 5 = .sl 3 (vs G.goal ((l.take j).map (G.mapV fun v => sumI v k))) (some h.length) ∧ s.tm 6 = .i j ∧ s.h = h ++ [.grow 53 3 j] := ⟨_, rfl⟩; refine Q4 I ?_ (m := l.length) ?_
  · intro m' s hs; rw [hI] at hs; obtain ⟨tm, hp⟩ := s; dsimp only at hs; obtain ⟨j, rfl, hj, t0, t1, t5, t6, rfl⟩ := hs
    by_cases hlt : j < l.length
    · obtain ⟨o1, o2, o3⟩ := ho _ (List.getElem_mem hlt)
      have hc := ZN 1000000 k (Qah k hk 1000000 (Nat.le_refl _)) l[j].args (Nat.le_trans (Qfd hlt) hn) (Nat.le_refl _) o3
      have hml : ((l.take j).map (G.mapV fun v => sumI v k)).length = j := by rw [List.length_map, List.length_take]; omega
      have hb1 : j + 1 ≤ maxLen := by simp only [maxLen]; omega
      have hb2 : (j + 1) * 48 ≤ 140737488355328 := by omega
      repeat (first | ((first | (with_reducible (first | refine Qa fun K E hK hE => ?_ | refine Qn fun K E hK hE => ?_ | refine QP hc ?_)) | (refine Xv (id := 5) [(0, 0), (1, 0), (2, 0), (3, 0), (4, 0), (5, 0), (6, 0), (7, 0), (8, 0), (9, 0), (10, 0), (11, 0), (12, 0), (13, 0), (14, 0), (15, 0), (16, 0), (17, 1), (18, 0), (19, 0), (20, 2), (21, 0)] mixed (by kernel_rfl) fun K hK => ?_)); simp -implicitDefEqProofs only [Xc, Q7, Xn, Qf, Qb, Qi, OpW, aop, AS.ev, Qc, Qq, Qm, AV.Qj3, Qr, Q3, Xp, QD, List.all_cons, List.all_nil, QB, Qw, QN, QH, Bool.and_self, ↓reduceIte, List.length_cons, List.length_nil, Nat.reduceAdd, Nat.reduceLT, Nat.reduceLeDiff, Nat.reduceEqDiff, Nat.reduceMul, Nat.zero_add, Nat.add_zero, and_self, Ql, QI, QJ, QL, aBin, Za, Zm, Q5, aLen, YD, Zd, QX, X0, List.getElem?_cons_zero, List.getElem?_cons_succ, List.set_cons_zero, Option.map_some, List.getElem?_toArray, List.map_cons, List.map_nil, List.cons_append, List.nil_append, List.append_nil, List.take_succ_cons, List.take_zero, List.drop_succ_cons, List.drop_zero, QY, Xj, goInt, decide_true, beq_self_eq_true, Int.toNat_natCast, Int.natCast_nonneg, Int.ofNat_lt, rng1, Xa, Nat.reducePow, ti3, ti9, ei23, ai23, un23, ti44, XR, YZ, Yg, zi53, sp53, t0, t1, t5, t6, hlt, QF, YG G.goal hlt, Q2, hml, hb1, hb2]) | (with_reducible (first | refine Qh fun K hK => ?_ | refine Qk ?_ | refine Qt ?_ | refine Qe ?_ | refine Qs ?_)) | ((with_reducible refine hK _ ?_); clear hK) | (refine Qj rfl ?_; simp only [↓reduceIte]))
      refine XE.mk (m' := l.length - (j + 1)) (by omega) ?_
      rw [hI]
      refine ⟨j + 1, rfl, hlt, t0, t1, ?_, ?_, rfl⟩
      · simp only [upd, ↓reduceIte, Nat.reduceEqDiff]
        rw [List.take_succ_eq_append_getElem hlt, List.map_append, Qau]
        rfl
      · simp only [upd, ↓reduceIte]
        rw [Xf (by omega)]
    · have hjl : j = l.length := by omega
      repeat (first | (((with_reducible refine Qa fun K E hK hE => ?_)); simp -implicitDefEqProofs only [Qf, Qb, Qi, OpW, aop, AS.ev, Qc, Qm, ↓reduceIte, Nat.reduceLT, Nat.reduceEqDiff, aBin, aLen, Option.map_some, QY, goInt, decide_false, Int.ofNat_lt, un23, t0, t5, t6, hlt, QF]) | (with_reducible (first | refine Qh fun K hK => ?_ | refine Qo ?_ | refine Q1 ?_ | refine Qe ?_ | refine QS ?_ | refine QR ?_)) | ((with_reducible refine hK _ ?_); clear hK) | (clear hK; (with_reducible refine hK _ ?_); clear hK) | (refine Qj rfl ?_; simp only [↓reduceIte, Bool.false_eq_true]))
      simp only [QO, Qp, Qv, upd, ↓reduceIte, Option.some.injEq, exists_eq_left']; first | refine Qd (htake _ _) (.tok (QaO G.goal _ (ZS _) _)) ⟨by rw [hjl, List.take_length], rfl⟩ | refine Qd List.take_length (.tok (QaO G.goal _ (ZS _) _)) ⟨by rw [hjl, List.take_length], rfl⟩
  · rw [hI]
    exact ⟨0, by omega, Nat.zero_le _, rfl, rfl, rfl, rfl, rfl⟩
theorem QbH (r : Rl) (k : Int) (hk : i64 k) (ho : r.ok) (hs : gN r.keep ≤ 1000000 ∧ gN r.remove ≤ 1000000 ∧ gN r.guard ≤ 1000000 ∧ gN r.body ≤ 1000000) : Pure Tryz.prog 22 [r.av, .i k] (r.mapV fun v => sumI v k).av := by
  intro h
  obtain ⟨s1, s2, s3, s4⟩ := hs
  obtain ⟨_, _, _, _, _, o1, o2, o3, o4⟩ := ho
  have c1 := Qb8 r.keep k hk o1 s1
  have c2 := Qb8 r.remove k hk o2 s2
  have c3 := Qb9 r.guard k hk o3 s3
  have c4 := Qb9 r.body k hk o4 s4
  refine Qg Tryz.func22 rfl Tryz.call22 Tryz.ntmps22 (congrArg Array.toList Tryz.results22) (by simp) ?_
  repeat (first | ((first | (with_reducible (first | refine Qa fun K E hK hE => ?_ | refine QP c1 ?_ | refine QP c2 ?_ | refine QP c3 ?_ | refine QP c4 ?_)) | (refine QQ (id := 1) [(0, 0), (1, 0), (2, 0), (3, 0), (4, 0), (5, 1), (6, 0), (7, 0), (8, 0), (9, 1), (10, 0), (11, 0), (12, 0), (13, 1), (14, 0), (15, 0), (16, 0), (17, 1), (18, 0), (19, 0), (20, 0), (21, 2)] mixed (by kernel_rfl) fun K hK => ?_)); simp -implicitDefEqProofs only [Xc, Q7, Xn, Qf, Qb, Qi, OpW, aop, undef, AS.ev, Qc, QV, Qm, QC, List.getD_cons_zero, List.getD_cons_succ, AV.Qj3, Qr, Q3, Xp, QD, List.all_cons, List.all_nil, QB, Qw, QN, QH, Bool.and_self, ↓reduceIte, List.length_cons, List.length_nil, Nat.reduceAdd, Nat.reduceLT, Nat.reduceLeDiff, Nat.reduceEqDiff, Nat.zero_add, Nat.add_zero, and_self, Ql, QI, QJ, Xb, QZ, Za, Zm, QX, hget, hset, hlen, happ, List.getElem?_cons_zero, List.getElem?_cons_succ, List.set_cons_zero, List.set_cons_succ, Option.map_some, List.getElem?_toArray, List.map_cons, List.map_nil, List.cons_append, List.nil_append, List.append_nil, List.take_succ_cons, List.take_zero, List.drop_succ_cons, List.drop_zero, ti3, ti9, ti22, ti23, ti25, XX, XY, X1, X5, X9, ZT, zi25, sp25, Rl.cells]) | (with_reducible refine Qo ?_) | ((with_reducible refine hK _ ?_); clear hK))
  simp -implicitDefEqProofs only [Qm, Qr, QD, ↓reduceIte, List.length_cons, List.length_nil, Nat.reduceAdd, Nat.reduceEqDiff, Nat.zero_add, and_self, QI, QJ, hget, List.getElem?_cons_zero, List.getElem?_cons_succ, Option.some.injEq, ti25, QO, Qp, Qv, exists_eq_left']
  exact Qd (htake _ _) (.keep (Qgn _ (r.mapV fun v => sumI v k))) ⟨rfl, rfl⟩
end Go.Proofs.YtenheconhibonaaGreatDoor.Ab
set_option linter.unusedVariables false
namespace Go.Proofs.YtenheconhibonaaGreatDoor.Ab
mutual
theorem T.Qkj (f : Int → Int) : ∀ t : T, (t.map f).vars = t.vars.map f
  | .mk k i n l => by
    simp only [T.map, T.vars]
    by_cases h1 : k = 1
    · simp [h1, T.vars]
    · by_cases h2 : k = 2
      · simp only [if_neg h1, if_pos h2, T.vars]; exact QbQ f l
      · simp [h1, h2, T.vars]
theorem QbQ (f : Int → Int) : ∀ l : List T, XD (maps f l) = (XD l).map f
  | [] => rfl
  | t :: l => by rw [maps, XD, XD, T.Qkj f t, QbQ f l, List.map_append]
end
mutual
theorem T.map_map (f g : Int → Int) : ∀ t : T, (t.map f).map g = t.map fun n => g (f n)
  | .mk k i n l => by
    simp only [T.map]
    by_cases h1 : k = 1
    · simp [h1, T.map]
    · by_cases h2 : k = 2
      · simp only [if_neg h1, if_pos h2, T.map]; rw [Qcz f g l]
      · simp [h1, h2, T.map]
theorem Qcz (f g : Int → Int) : ∀ l : List T, maps g (maps f l) = maps (fun n => g (f n)) l
  | [] => rfl
  | t :: l => by rw [maps, maps, maps, T.map_map f g t, Qcz f g l]
end
mutual
theorem T.map_congr {f g : Int → Int} : ∀ (t : T), (∀ v ∈ t.vars, f v = g v) → t.map f = t.map g
  | .mk k i n l, h => by
    simp only [T.map, T.vars] at h ⊢
    by_cases h1 : k = 1
    · simp only [if_pos h1] at h ⊢; rw [h i (by simp)]
    · by_cases h2 : k = 2
      · simp only [if_neg h1, if_pos h2] at h ⊢; rw [QbO l h]
      · simp [h1, h2]
theorem QbO {f g : Int → Int} : ∀ (l : List T), (∀ v ∈ XD l, f v = g v) → maps f l = maps g l
  | [], _ => rfl
  | t :: l, h => by
    rw [maps, maps, T.map_congr t fun v hv => h v (by rw [XD]; exact List.mem_append.2 (.inl hv)), QbO l fun v hv => h v (by rw [XD]; exact List.mem_append.2 (.inr hv))]
end
end Go.Proofs.YtenheconhibonaaGreatDoor.Ab
set_option linter.unusedSimpArgs false
set_option linter.unusedVariables false
set_option maxHeartbeats 4000000
namespace Go.Proofs.YtenheconhibonaaGreatDoor.Ab
theorem ZG (g : G) (l : List G) : Ye (g :: l) = g.args ++ Ye l := rfl
theorem QjV (s : List Int) (g : G) (r : List Int) : nG s g = (g.mapV fun n => ((plc (ded s (XD g.args) ++ r) n : Nat) : Int), ded s (XD g.args)) := by
  rw [nG, Qa2 s g.args r]; rfl
theorem QbE : ∀ (s : List Int) (l : List G) (r : List Int), XU nG s l = (l.map (G.mapV fun n => ((plc (ded s (XD (Ye l)) ++ r) n : Nat) : Int)), ded s (XD (Ye l)))
  | s, [], r => rfl
  | s, g :: l, r => by
    obtain ⟨q, hq⟩ := QbU (ded s (XD g.args)) (XD (Ye l))
    rw [XU, QjV s g (q ++ r)]
    simp only
    rw [QbE _ l r]
    simp only [ZG, Y9, Y8, hq, List.append_assoc, List.map_cons]
def Rl.seen (r : Rl) : List Int := ded [] (XD (YC r))
theorem Qbd (r : Rl) : numR r = { (r.mapV fun n => ((plc r.seen n : Nat) : Int)) with vars := (r.seen.length : Nat) } := by
  have e : r.seen = ded (ded (ded (ded [] (XD (Ye r.keep))) (XD (Ye r.remove))) (XD (Ye r.guard))) (XD (Ye r.body)) := by
    rw [Rl.seen, YC]; simp only [Y9, Y8]
  obtain ⟨s1, e1⟩ : ∃ s, s = ded [] (XD (Ye r.keep)) := ⟨_, rfl⟩
  obtain ⟨s2, e2⟩ : ∃ s, s = ded s1 (XD (Ye r.remove)) := ⟨_, rfl⟩
  obtain ⟨s3, e3⟩ : ∃ s, s = ded s2 (XD (Ye r.guard)) := ⟨_, rfl⟩
  obtain ⟨s4, e4⟩ : ∃ s, s = ded s3 (XD (Ye r.body)) := ⟨_, rfl⟩
  rw [← e1, ← e2, ← e3, ← e4] at e
  obtain ⟨q2, h2⟩ := QbU s1 (XD (Ye r.remove))
  obtain ⟨q3, h3⟩ := QbU s2 (XD (Ye r.guard))
  obtain ⟨q4, h4⟩ := QbU s3 (XD (Ye r.body))
  rw [← e2] at h2
  rw [← e3] at h3
  rw [← e4] at h4
  have a1 := QbE [] r.keep (q2 ++ (q3 ++ q4))
  have a2 := QbE s1 r.remove (q3 ++ q4)
  have a3 := QbE s2 r.guard q4
  have a4 := QbE s3 r.body []
  rw [← e1] at a1
  rw [← e2] at a2
  rw [← e3] at a3
  rw [← e4, List.append_nil] at a4
  have f1 : s1 ++ (q2 ++ (q3 ++ q4)) = s4 := by rw [h4, h3, h2]; simp only [List.append_assoc]
  have f2 : s2 ++ (q3 ++ q4) = s4 := by rw [h4, h3]; simp only [List.append_assoc]
  have f3 : s3 ++ q4 = s4 := h4.symm
  rw [f1] at a1
  rw [f2] at a2
  rw [← h4] at a3
  rw [numR, a1]
  simp only
  rw [a2]
  simp only
  rw [a3]
  simp only
  rw [a4, e]
  rfl
theorem Qfb (f : Int → Int) : ∀ l : List G, Ye (l.map (G.mapV f)) = maps f (Ye l)
  | [] => rfl
  | g :: l => by rw [List.map_cons, ZG, ZG, Qfb f l]; simp only [G.mapV, ZP, List.map_append]
theorem QfR (f : Int → Int) (l m : List T) : maps f (l ++ m) = maps f l ++ maps f m := by rw [ZP, ZP, ZP, List.map_append]
theorem Qg1 (f : Int → Int) (r : Rl) : YC (r.mapV f) = maps f (YC r) := by
  simp only [YC, Rl.mapV, Qfb, QfR]
def QiH (f : Int → Int) (l : List Int) : Prop := ∀ a ∈ l, ∀ b ∈ l, f a = f b → a = b
theorem QjG {f : Int → Int} {s : List Int} {n : Int} (h : ∀ a ∈ s, f a = f n → a = n) : ins (s.map f) (f n) = (ins s n).map f := by
  unfold ins
  by_cases hn : n ∈ s
  · rw [if_pos hn, if_pos (List.mem_map_of_mem hn)]
  · rw [if_neg hn, if_neg, List.map_append]
    · rfl
    · intro hm
      obtain ⟨a, ha, e⟩ := List.mem_map.1 hm
      exact hn (h a ha e ▸ ha)
theorem Qij {f : Int → Int} : ∀ {l s : List Int}, QiH f (s ++ l) → ded (s.map f) (l.map f) = (ded s l).map f
  | [], s, h => rfl
  | n :: l, s, h => by
    rw [List.map_cons, ded, ded, QjG fun a ha e => h a (by simp [ha]) n (by simp) e]
    refine Qij fun a ha b hb e => h a ?_ b ?_ e
    · simp only [List.mem_append, QdH, List.mem_cons] at ha ⊢; rcases ha with (h | h) | h <;> simp [h]
    · simp only [List.mem_append, QdH, List.mem_cons] at hb ⊢; rcases hb with (h | h) | h <;> simp [h]
theorem Qic {f : Int → Int} {n : Int} : ∀ {s : List Int}, (∀ a ∈ s, f a = f n → a = n) → plc (s.map f) (f n) = plc s n
  | [], h => rfl
  | a :: s, h => by
    rw [List.map_cons, plc, plc]
    by_cases e : a = n
    · rw [if_pos e, if_pos (by rw [e])]
    · rw [if_neg e, if_neg (fun e' => e (h a (by simp) e')), Qic fun b hb => h b (by simp [hb])]
theorem Qd9 {r : Rl} {v : Int} : v ∈ r.seen ↔ v ∈ XD (YC r) := by rw [Rl.seen, QhP]; simp
theorem QgA {f : Int → Int} {r : Rl} (h : QiH f r.seen) : (r.mapV f).seen = r.seen.map f := by
  rw [Rl.seen, Qg1, QbQ]
  exact Qij (s := []) fun a ha b hb => h a (Qd9.2 ha) b (Qd9.2 hb)
theorem G.Qkg (f g : Int → Int) (x : G) : (x.mapV f).mapV g = x.mapV fun n => g (f n) := by simp only [G.mapV, Qcz]
theorem Z6 {f g : Int → Int} : ∀ {l : List G}, (∀ v ∈ XD (Ye l), f v = g v) → l.map (G.mapV f) = l.map (G.mapV g)
  | [], _ => rfl
  | x :: l, h => by
    rw [List.map_cons, List.map_cons, Z6 fun v hv => h v (by rw [ZG, Y9]; exact List.mem_append.2 (.inr hv))]
    rw [G.mapV, G.mapV, QbO x.args fun v hv => h v (by rw [ZG, Y9]; exact List.mem_append.2 (.inl hv))]
theorem QgN {f g : Int → Int} {r : Rl} (h : ∀ v ∈ XD (YC r), f v = g v) : r.mapV f = r.mapV g := by
  rw [YC] at h
  simp only [Y9, List.mem_append] at h
  rw [Rl.mapV, Rl.mapV, Z6 fun v hv => h v (.inl hv), Z6 fun v hv => h v (.inr (.inl hv)), Z6 fun v hv => h v (.inr (.inr (.inl hv))), Z6 fun v hv => h v (.inr (.inr (.inr hv)))]
theorem QiE (f g : Int → Int) (r : Rl) : (r.mapV f).mapV g = r.mapV fun n => g (f n) := by
  simp only [Rl.mapV, List.map_map]
  congr 1 <;> (apply List.map_congr_left; intro x _; exact G.Qkg f g x)
theorem Qgr {f : Int → Int} {r : Rl} (h : QiH f r.seen) : numR (r.mapV f) = numR r := by
  rw [Qbd, Qbd, QgA h, QiE, List.length_map]
  rw [QgN (g := fun n => ((plc r.seen n : Nat) : Int)) fun v hv => by rw [Qic fun a ha e => h a ha v (Qd9.2 hv) e]]
theorem QgT (r : Rl) : r.seen.Nodup := QeN List.nodup_nil
theorem Qit (s : List Int) : QiH (fun n => ((plc s n : Nat) : Int)) s := by
  intro a ha b hb e
  have e' : plc s a = plc s b := Int.ofNat.inj e
  have h1 := QhW ha
  have h2 := QhW hb
  rw [← h1, ← h2]
  congr 1
theorem Qdv (r : Rl) : numR (numR r) = numR r := by
  have e : numR (numR r) = numR (r.mapV fun n => ((plc r.seen n : Nat) : Int)) := by rw [Qbd r]; rfl
  rw [e]; exact Qgr (Qit _)
theorem QdW (r : Rl) : (numR r).seen = r.seen.map fun n => ((plc r.seen n : Nat) : Int) := by
  have e : (numR r).seen = (r.mapV fun n => ((plc r.seen n : Nat) : Int)).seen := by rw [Qbd r]; rfl
  rw [e]; exact QgA (Qit _)
theorem QfA (r : Rl) (i : Nat) (h : i < r.seen.length) : (numR r).seen[i]? = some (i : Int) := by
  rw [QdW, List.getElem?_map, List.getElem?_eq_getElem h, Option.map_some, Qie (QgT r) h]
theorem Qb7 (r : Rl) : ∀ v ∈ (numR r).seen, 0 ≤ v ∧ v < r.seen.length := by
  intro v hv
  rw [QdW] at hv
  obtain ⟨a, ha, rfl⟩ := List.mem_map.1 hv
  have := QhY ha
  omega
theorem QgU (r : Rl) (k : Int) (hk : 0 ≤ k ∧ k ≤ 1048576) (hn : r.seen.length ≤ 1000000) : numR ((numR r).mapV fun v => sumI v k) = numR r := by
  rw [Qgr, Qdv]
  intro a ha b hb e
  have h1 := Qb7 r a ha
  have h2 := Qb7 r b hb
  simp only [sumI] at e
  rw [if_neg (by omega), if_neg (by omega)] at e
  omega
end Go.Proofs.YtenheconhibonaaGreatDoor.Ab
set_option linter.unusedSimpArgs false
set_option linter.unusedVariables false
set_option maxHeartbeats 4000000
set_option maxRecDepth 4000
namespace Go.Proofs.YtenheconhibonaaGreatDoor.Ab
open Go.Proofs
mutual
theorem T.Qko {g : Int → Int} : ∀ (t : T), (t.map g).nds = t.nds
  | .mk k i n l => by
    simp only [T.map]
    split
    · simp only [T.nds]
    · split
      · simp only [T.nds, Qev l]
      · rfl
theorem Qev {g : Int → Int} : ∀ (l : List T), ndsL (maps g l) = ndsL l
  | [] => rfl
  | t :: l => by simp only [maps, ndsL, T.Qko t, Qev l]
end
mutual
theorem T.map_ok {g : Int → Int} (hg : ∀ n, i64 n → i64 (g n)) : ∀ (t : T), t.ok → (t.map g).ok
  | .mk k i n l, h => by
    simp only [T.ok] at h
    obtain ⟨h1, h2, h3, h4⟩ := h
    simp only [T.map]
    split
    · simp only [T.ok]; exact ⟨h1, hg _ h2, h3, h4⟩
    · split
      · simp only [T.ok]; exact ⟨h1, h2, h3, Qf2 hg l h4⟩
      · simp only [T.ok]; exact ⟨h1, h2, h3, h4⟩
theorem Qf2 {g : Int → Int} (hg : ∀ n, i64 n → i64 (g n)) : ∀ (l : List T), oks l → oks (maps g l)
  | [], _ => trivial
  | t :: l, h => ⟨T.map_ok hg t h.1, Qf2 hg l h.2⟩
end
theorem Qgu (a b : List T) : ndsL (a ++ b) = ndsL a + ndsL b := by
  induction a with
  | nil => simp [ndsL]
  | cons t a ih => simp only [List.cons_append, ndsL, ih]; omega
theorem Qdn : ∀ l : List G, ndsL (Ye l) = ndsG l
  | [] => rfl
  | g :: l => by rw [ZG, Qgu, Qdn l]; rfl
theorem Qiq : ∀ l : List G, gN l = l.length + ndsG l
  | [] => rfl
  | g :: l => by rw [gN, Qiq l, List.length_cons, ndsG]; omega
theorem QhI : ∀ l : List G, wG l = ndsG l
  | [] => rfl
  | g :: l => by have := QhI l; simp only [wG, List.map_cons, List.sum_cons, ndsG] at this ⊢; rw [this]; rfl
theorem Qgz (f : Int → Int) : ∀ l : List G, ndsG (l.map (G.mapV f)) = ndsG l
  | [] => rfl
  | g :: l => by rw [List.map_cons, ndsG, ndsG, Qgz f l, G.mapV, Qev]
/-- a rule that is small -/
def Rl.small (r : Rl) : Prop := (r.keep.length ≤ 300 ∧ r.remove.length ≤ 300 ∧ r.guard.length ≤ 300 ∧ r.body.length ≤ 300) ∧ ndsG r.keep ≤ 300 ∧ ndsG r.remove ≤ 300 ∧ ndsG r.guard ≤ 300 ∧ ndsG r.body ≤ 300
theorem Yx {l : List G} (h : decide (XS l 300 < 0) = false) : l.length ≤ 300 ∧ ndsG l ≤ 300 := by
  have h := of_decide_eq_false h
  have h1 := QaV l 300 (by omega)
  have h2 := QeE l 300 (by omega)
  omega
theorem QiR {r : Rl} (h : Y5 r = false) : r.small := by
  simp only [Y5, Bool.or_eq_false_iff] at h
  obtain ⟨_, h1, h2, h3, h4⟩ := h
  exact ⟨⟨(Yx h1).1, (Yx h2).1, (Yx h3).1, (Yx h4).1⟩, (Yx h1).2, (Yx h2).2, (Yx h3).2, (Yx h4).2⟩
theorem QeZ {r : Rl} (h : r.small) (f : Int → Int) : (r.mapV f).small := by
  simp only [Rl.small, Rl.mapV, List.length_map, Qgz] at h ⊢; exact h
theorem Qid {r : Rl} (h : r.small) : (numR r).small := by
  have := QeZ h fun n => ((plc r.seen n : Nat) : Int)
  rw [Qbd]; exact this
theorem Rl.small.fits {r : Rl} (h : r.small) : r.fits := by
  obtain ⟨⟨a, b, c, d⟩, e, f, g, i⟩ := h
  refine ⟨by omega, by omega, by omega, by omega, ?_⟩
  simp only [QhI]; omega
theorem Rl.small.gNs {r : Rl} (h : r.small) : gN r.keep ≤ 1000000 ∧ gN r.remove ≤ 1000000 ∧ gN r.guard ≤ 1000000 ∧ gN r.body ≤ 1000000 := by
  obtain ⟨⟨a, b, c, d⟩, e, f, g, i⟩ := h
  simp only [Qiq]; omega
theorem Rl.small.terms {r : Rl} (h : r.small) : ndsL (YC r) ≤ 1200 := by
  obtain ⟨⟨a, b, c, d⟩, e, f, g, i⟩ := h
  simp only [YC, Qgu, Qdn]; omega
theorem Qjn (v : Int) : ∀ u : List Int, plc u v ≤ u.length
  | [] => Nat.le_refl _
  | a :: u => by rw [plc]; split
                 · omega
                 · have := Qjn v u; simp only [List.length_cons]; omega
theorem QdQ {f : Int → Int} (hf : ∀ n, i64 n → i64 (f n)) {l : List G} (h : ∀ g ∈ l, g.ok) : ∀ g ∈ l.map (G.mapV f), g.ok := by
  intro g hg
  obtain ⟨x, hx, rfl⟩ := List.mem_map.1 hg
  obtain ⟨a, b, c⟩ := h x hx
  exact ⟨a, b, Qf2 hf _ c⟩
theorem QjQ {r : Rl} (h : r.ok) (hs : r.seen.length ≤ 1000000) : (numR r).ok := by
  have hf : ∀ n : Int, i64 n → i64 ((plc r.seen n : Nat) : Int) := fun n _ => by have := Qjn n r.seen; unfold i64; omega
  obtain ⟨a, b1, b2, b3, b4, c1, c2, c3, c4⟩ := h
  rw [Qbd]
  exact ⟨a, by simpa only [Rl.mapV, List.length_map] using b1, by simpa only [Rl.mapV, List.length_map] using b2, by simpa only [Rl.mapV, List.length_map] using b3, by simpa only [Rl.mapV, List.length_map] using b4, QdQ hf c1, QdQ hf c2, QdQ hf c3, QdQ hf c4⟩
theorem Qj1 (r : Rl) (k : Int) (ho : r.ok) (hk : i64 k) (h : AH) (hG : Xu h) : XG Tryz.prog 5 [r.av, .i k] h fun o h' => o = .ret (.b true) ∧ h' = h := by
  have c0 := QfS [r] (by intro x hx; rw [List.mem_singleton.1 hx]; exact ho) (by simp)
  rw [QjX] at c0
  have ce := fun L => Qfi (h ++ L) (hG.app L)
  obtain ⟨b0, hb0⟩ : ∃ b, b = QcY [r] := ⟨_, rfl⟩
  rw [← hb0] at c0
  cases b0 with
  | true =>
    refine Qg Tryz.func5 rfl Tryz.call5 Tryz.ntmps5 (congrArg Array.toList Tryz.results5) (by simp) ?_
    repeat (first | ((first | (with_reducible (first | refine Qa fun K E hK hE => ?_ | refine Qy c0 ?_ | refine FunW.ret (FunW.call (ce _)) ?_))); simp -implicitDefEqProofs only [Qf, Qb, Qi, OpW, QW, aop, undef, AS.ev, Qc, Qz, Qm, QC, List.getD_cons_zero, AV.Qj3, Qr, List.all_cons, List.all_nil, QB, Qw, QN, QH, Bool.and_self, Bool.not_true, ↓reduceIte, List.length_cons, List.length_nil, Nat.reduceAdd, Nat.reduceLT, Nat.reduceLeDiff, Nat.reduceEqDiff, Nat.reduceMul, Nat.zero_add, and_self, QI, QJ, Q5, QX, List.getElem?_cons_zero, List.getElem?_cons_succ, Option.map_some, Option.bind_some, List.getElem?_toArray, List.map_cons, List.map_nil, beq_self_eq_true, beq_false, rng1, Xa, Nat.reducePow, ti25, zi25, ei27, Rl.cells, Rl.isAgg]) | (with_reducible (first | refine Qh fun K hK => ?_ | refine Qo ?_ | refine QA ?_)) | ((with_reducible refine hK _ ?_); clear hK) | (refine Qj rfl ?_; simp only [↓reduceIte]))
    simp only [QO, Qp, Qv, upd, ↓reduceIte, Option.some.injEq, exists_eq_left']; first | refine Qd (htake _ _) (.keep (.v _)) ⟨rfl, rfl⟩ | refine Qd List.take_length (.keep (.v _)) ⟨rfl, rfl⟩
  | false =>
  by_cases k1 : k < 0
  · refine Qg Tryz.func5 rfl Tryz.call5 Tryz.ntmps5 (congrArg Array.toList Tryz.results5) (by simp) ?_
    repeat (first | ((first | (with_reducible (first | refine Qa fun K E hK hE => ?_ | refine Qy c0 ?_ | refine FunW.ret (FunW.call (ce _)) ?_))); simp -implicitDefEqProofs only [Qf, Qb, Qi, OpW, QW, aop, undef, AS.ev, Qc, Qq, Qz, Qm, QC, List.getD_cons_zero, List.getD_cons_succ, AV.Qj3, Qr, List.all_cons, List.all_nil, QB, Qw, QN, QH, Bool.and_self, Bool.not_true, ↓reduceIte, List.length_cons, List.length_nil, Nat.reduceAdd, Nat.reduceLT, Nat.reduceLeDiff, Nat.reduceEqDiff, Nat.reduceMul, Nat.zero_add, and_self, QI, QJ, aBin, Q5, QX, List.getElem?_cons_zero, List.getElem?_cons_succ, Option.map_some, Option.bind_some, List.getElem?_toArray, List.map_cons, List.map_nil, QY, decide_true, beq_self_eq_true, Bool.false_eq_true, beq_false, rng1, Xa, Nat.reducePow, ti25, zi25, ei27, Rl.cells, Rl.isAgg, k1]) | (with_reducible (first | refine Qh fun K hK => ?_ | refine Qo ?_ | refine QA ?_)) | ((with_reducible refine hK _ ?_); clear hK) | (refine Qj rfl ?_; simp only [↓reduceIte]))
    simp only [QO, Qp, Qv, upd, ↓reduceIte, Option.some.injEq, exists_eq_left']; first | refine Qd (htake _ _) (.keep (.v _)) ⟨rfl, rfl⟩ | refine Qd List.take_length (.keep (.v _)) ⟨rfl, rfl⟩
  by_cases k2 : k > 1048576
  · refine Qg Tryz.func5 rfl Tryz.call5 Tryz.ntmps5 (congrArg Array.toList Tryz.results5) (by simp) ?_
    repeat (first | ((first | (with_reducible (first | refine Qa fun K E hK hE => ?_ | refine Qy c0 ?_ | refine FunW.ret (FunW.call (ce _)) ?_))); simp -implicitDefEqProofs only [Qf, Qb, Qi, OpW, QW, aop, undef, AS.ev, Qc, Qq, Qz, Qm, QC, List.getD_cons_zero, List.getD_cons_succ, AV.Qj3, Qr, List.all_cons, List.all_nil, QB, Qw, QN, QH, Bool.and_self, ↓reduceIte, List.length_cons, List.length_nil, Nat.reduceAdd, Nat.reduceLT, Nat.reduceLeDiff, Nat.reduceEqDiff, Nat.reduceMul, Nat.zero_add, and_self, QI, QJ, aBin, Q5, QX, List.getElem?_cons_zero, List.getElem?_cons_succ, Option.map_some, Option.bind_some, List.getElem?_toArray, List.map_cons, List.map_nil, QY, Q6, decide_true, decide_false, beq_self_eq_true, Bool.false_eq_true, rng1, Xa, Nat.reducePow, ti25, zi25, ei27, Rl.cells, Rl.isAgg, k1, k2]) | (with_reducible (first | refine Qh fun K hK => ?_ | refine Qo ?_ | refine QA ?_)) | ((with_reducible refine hK _ ?_); clear hK) | (refine Qj rfl ?_; simp only [↓reduceIte]))
    simp only [QO, Qp, Qv, upd, ↓reduceIte, Option.some.injEq, exists_eq_left']; first | refine Qd (htake _ _) (.keep (.v _)) ⟨rfl, rfl⟩ | refine Qd List.take_length (.keep (.v _)) ⟨rfl, rfl⟩
  have hg : Y5 r = false := by
    simp only [QcY, List.any_cons, List.any_nil, Bool.or_false] at hb0
    exact (Bool.or_eq_false_iff.1 hb0.symm).2
  have hs := QiR hg
  have hx := Qid hs
  obtain ⟨a1, a2, a3, a4, a5⟩ := hs.fits
  obtain ⟨b1, b2, b3, b4, b5⟩ := hx.fits
  have tr := hs.terms
  have tx := hx.terms
  have lr := XA (YC r)
  have lx := XA (YC (numR r))
  have s1 : r.seen.length ≤ 1200 := by
    have e : ded [] (XD (YC r)) = r.seen := rfl
    have := Y7 [] (XD (YC r))
    rw [e] at this
    have := ZU (YC r)
    simp only [List.length_nil] at *
    omega
  have e2 : (numR r).seen.length = r.seen.length := by rw [QdW, List.length_map]
  have e1 : (numR r).vars = r.seen.length := by rw [Qbd]
  have hxo := QjQ ho (by omega)
  have hsh := QeZ hx fun v => sumI v k
  obtain ⟨d1, d2, d3, d4, d5⟩ := hsh.fits
  have cN := ZI r a1 a2 a3 a4 a5
  have cN2 := ZI (numR r) b1 b2 b3 b4 b5
  rw [Qdv] at cN2
  have cN3 := ZI ((numR r).mapV fun v => sumI v k) d1 d2 d3 d4 d5
  rw [QgU r k (by omega) (by omega)] at cN3
  have cT := Qdd r (by omega) (by omega) (by omega) (by omega) (by omega)
  have cT2 := Qdd (numR r) (by omega) (by omega) (by omega) (by omega) (by omega)
  have cV : Pure Tryz.prog 20 [.sl 4 (avs (YC r)) none] (.sl 1 (ints r.seen) none) := Qba (YC r) (by omega)
  have cV2 : Pure Tryz.prog 20 [.sl 4 (avs (YC (numR r))) none] (.sl 1 (ints (numR r).seen) none) := Qba (YC (numR r)) (by omega)
  have cS := Qd8 (numR r) hx.gNs
  have cSh := QbH (numR r) k hk hxo hx.gNs
  have hgx := fun i hi => QfA r i hi
  obtain ⟨x, ex⟩ : ∃ x, x = numR r := ⟨_, rfl⟩
  obtain ⟨w, ew⟩ : ∃ w, w = x.mapV fun v => sumI v k := ⟨_, rfl⟩
  obtain ⟨N, eN⟩ : ∃ N : Nat, N = r.seen.length := ⟨_, rfl⟩
  rw [← ex] at cN cN2 cN3 cT2 cV2 cS cSh e1 e2 hgx
  rw [← ew] at cN3 cSh
  rw [← eN] at e1 e2 hgx
  have e3 : r.seen.length = N := eN.symm
  have hN : N ≤ 1200 := by omega
  clear hs hx a1 a2 a3 a4 a5 b1 b2 b3 b4 b5 d1 d2 d3 d4 d5 tr tx lr lx hsh hxo ex ew eN
  refine Qg Tryz.func5 rfl Tryz.call5 Tryz.ntmps5 (congrArg Array.toList Tryz.results5) (by simp) ?_
  repeat (first | ((first | (with_reducible (first | refine Qa fun K E hK hE => ?_ | refine Qy c0 ?_ | refine Qy cN ?_ | refine Qy cT ?_ | refine Qy cT2 ?_ | refine Qy cV ?_ | refine Qy cV2 ?_))); simp -implicitDefEqProofs only [Qf, Qb, Qi, OpW, QW, aop, undef, AS.ev, Qc, QV, Qq, Qz, Qm, QC, List.getD_cons_zero, List.getD_cons_succ, AV.Qj3, Qr, QD, List.all_cons, List.all_nil, QB, Qw, QN, QH, Bool.and_self, ↓reduceIte, List.length_cons, List.length_nil, Nat.reduceAdd, Nat.reduceLT, Nat.reduceLeDiff, Nat.reduceEqDiff, Nat.reduceMul, Nat.zero_add, and_self, Ql, QI, QJ, Xb, QZ, aBin, Q5, aLen, QX, hget, hset, hlen, happ, List.getElem?_cons_zero, List.getElem?_cons_succ, List.set_cons_zero, List.set_cons_succ, Option.map_some, Option.bind_some, List.getElem?_toArray, List.map_cons, List.map_nil, List.cons_append, List.nil_append, XJ, QY, Q6, goInt, decide_false, beq_self_eq_true, bne_self_eq_false, Bool.false_eq_true, rng1, Xa, Nat.reducePow, Xe, ti3, ti25, ZT, zi25, ei27, un42, Rl.cells, Rl.isAgg, k1, k2, e1, e2, e3, Xe]) | (with_reducible (first | refine Qh fun K hK => ?_ | refine Qk ?_ | refine Qt ?_ | refine Qe ?_)) | ((with_reducible refine hK _ ?_); clear hK) | (refine Qj rfl ?_; simp only [↓reduceIte, Bool.false_eq_true]))
  obtain ⟨I, hI⟩ : ∃ I : Nat → AS → Prop, I = fun m' s => ∃ i : Nat, m' = N - i ∧ i ≤ N ∧ s.tm 1 = .i k ∧ s.tm 5 = .ptr (h.length + 1) 0 0 ∧ s.tm 6 = .sl 1 (ints x.seen) none ∧ s.tm 7 = .i i ∧ s.h = h ++ [.cells 25 6 [r.av], .cells 25 6 [x.av]] := ⟨_, rfl⟩; refine Q4 I ?_ (m := N) ?_
  · intro m' s hs; rw [hI] at hs; obtain ⟨tm, hp⟩ := s; dsimp only at hs; obtain ⟨i, rfl, hi, t1, t5, t6, t7, rfl⟩ := hs
    by_cases hlt : i < N
    · have hg2 : (ints x.seen)[i]? = some (.i (i : Int)) := by rw [ints, List.getElem?_map, hgx i hlt]; rfl
      have z1 : (i : Int) < N := by omega
      have z2 : ((i : Int) != (i : Int)) = false := by simp
      repeat (first | ((first | (with_reducible (first | refine Qa fun K E hK hE => ?_ | refine Qn fun K E hK hE => ?_))); simp -implicitDefEqProofs only [Qf, Qb, Qi, OpW, aop, AS.ev, Qc, Qq, Qm, Q3, ↓reduceIte, Nat.reduceLT, Nat.reduceEqDiff, and_self, QI, QJ, QL, aBin, aLen, List.getElem?_cons_zero, Option.map_some, XJ, QY, Xj, goInt, decide_true, bne_self_eq_false, Int.toNat_natCast, Int.natCast_nonneg, Xe, ti3, ei42, un42, t6, t7, z1, hg2, e2, Xe]) | (with_reducible (first | refine Qh fun K hK => ?_ | refine Qk ?_ | refine Qt ?_ | refine Qe ?_ | refine Qs ?_)) | ((with_reducible refine hK _ ?_); clear hK) | (refine Qj rfl ?_; simp only [↓reduceIte, Bool.false_eq_true]))
      refine XE.mk (m' := N - (i + 1)) (by omega) ?_
      rw [hI]
      refine ⟨i + 1, rfl, hlt, t1, t5, t6, ?_, rfl⟩
      simp only [upd, ↓reduceIte]
      rw [Xf (by omega)]
    · have z1 : ¬ (i : Int) < N := by omega
      repeat (first | ((first | (with_reducible (first | refine Qa fun K E hK hE => ?_ | refine QP cN2 ?_ | refine QP cS ?_ | refine QP cSh ?_ | refine QP cN3 ?_ | refine Xz (FunW.call (ce _)) (Qbt _) ?_)) | (refine QQ (id := 12) [(0, 0), (1, 1), (2, 0), (3, 1), (4, 0)] mixed (by kernel_rfl) fun K hK => ?_) | (refine QQ (id := 14) [(0, 0), (1, 0), (2, 1), (3, 1), (4, 0), (5, 1), (6, 0), (7, 3), (8, 0), (9, 0)] mixed (by kernel_rfl) fun K hK => ?_)); simp -implicitDefEqProofs only [Xc, Q7, Xn, Qf, Qb, Qi, OpW, aop, AS.ev, Qc, Qm, Bool.not_true, ↓reduceIte, List.length_cons, List.length_nil, Nat.reduceAdd, Nat.reduceLT, Nat.reduceLeDiff, Nat.reduceEqDiff, Nat.zero_add, and_self, QI, QJ, aBin, aLen, hget, List.getElem?_cons_zero, List.getElem?_cons_succ, Option.map_some, Option.bind_some, List.getElem?_toArray, List.map_cons, List.map_nil, QY, XM, goInt, decide_false, beq_self_eq_true, Xe, ti25, un42, t1, t5, t6, t7, z1, e2, Xe, Rl.cells, Rl.isAgg]) | (with_reducible (first | refine Qh fun K hK => ?_ | refine Qo ?_ | refine Qt ?_ | refine Q1 ?_ | refine Qe ?_ | refine QS ?_ | refine QR ?_)) | ((with_reducible refine hK _ ?_); clear hK) | (clear hK; (with_reducible refine hK _ ?_); clear hK) | (refine Qj rfl ?_; simp only [↓reduceIte, Bool.false_eq_true]))
      simp only [QO, Qp, Qv, upd, ↓reduceIte, Option.some.injEq, exists_eq_left']; first | refine Qd (htake _ _) (.keep (.v _)) ⟨rfl, rfl⟩ | refine Qd List.take_length (.keep (.v _)) ⟨rfl, rfl⟩
  · rw [hI]
    exact ⟨0, by omega, Nat.zero_le _, rfl, rfl, rfl, rfl, rfl⟩
end Go.Proofs.YtenheconhibonaaGreatDoor.Ab
set_option linter.unusedVariables false
set_option maxHeartbeats 4000000
set_option linter.unusedSimpArgs false
namespace Go.Proofs.YtenheconhibonaaGreatDoor.Ab
open Go.Proofs
def Dc.ok (d : Dc) : Prop := d.name.size ≤ 9223372036854775807 ∧ i64 d.arity
def Pg.ok (p : Pg) : Prop := p.decls.length ≤ 9223372036854775807 ∧ p.rules.length ≤ 9223372036854775807 ∧ (∀ d ∈ p.decls, d.ok) ∧ (∀ r ∈ p.rules, r.ok)
theorem Qgv {n : Int} (h : (Lit.int .i64 n).wf = true) : i64 n := by
  simpa [Lit.wf, IntKind.min, IntKind.max, IntKind.signed, IntKind.bits, i64] using h
theorem Qgh : ∀ (l : List T), (∀ t ∈ l, t.ok) → oks l
  | [], _ => trivial
  | t :: l, h => ⟨h t (by simp), Qgh l fun x hx => h x (by simp [hx])⟩
theorem Qgm {n : Nat} (h : n ≤ maxLen) : n ≤ 9223372036854775807 := by simp only [maxLen] at h; omega
theorem Qhg {c : Cx} {s : Nat} {xs : List AV} {own : Option Nat} {u : Value} (h : Rel c (.sl s xs own) u) : xs.length ≤ 9223372036854775807 := by
  cases h with
  | slnil => exact Nat.zero_le _
  | slzero => exact Nat.zero_le _
  | sl _ _ _ B o cap f hs hcap hmax hc hr ht => simp only [maxLen] at hmax; omega
theorem Zl {X : Type} {f : X → AV} {c : Cx} {s : Nat} {xs : List X} {own : Option Nat} {u : Value} (h : Rel c (.sl s (xs.map f) own) u) : xs.length ≤ 9223372036854775807 := by
  have := Qhg h; rwa [List.length_map] at this
theorem QfB {H : Type} (enc : TypeId × Value → H) (W : World) : ∀ (fuel : Nat) (cs : List Value) (y : DataW H × List MemPlace), DataW.trod enc Tryz.prog W 0 (fun _ => true) true fuel 69 cs = some y → ∃ p : T, T.ok p ∧ Reads W (T.av p) cs := by
  intro fuel
  induction fuel using Nat.strongRecOn with
  | _ fuel ih =>
  intro cs y h
  obtain ⟨xs, fu, hfu, _, hl, hlen, hf⟩ := DataW.trod_struct Tryz.underlying69 h
  have hC : Tryz.prog.cellsOf 69 = 4 := by kernel_rfl
  rw [hC] at hl
  have hlenN : xs.length = 4 := hlen
  obtain ⟨y0, l1, rfl, k1⟩ := Xq hlenN
  obtain ⟨y1, l2, rfl, k2⟩ := Xq k1
  obtain ⟨y2, l3, rfl, k3⟩ := Xq k2
  obtain ⟨y3, l4, rfl, k4⟩ := Xq k3
  obtain rfl := len_nil k4
  obtain ⟨c0, l1, rfl, k1⟩ := Xq hl
  obtain ⟨c1, l2, rfl, k2⟩ := Xq k1
  obtain ⟨c2, l3, rfl, k3⟩ := Xq k2
  obtain ⟨c3, l4, rfl, k4⟩ := Xq k3
  obtain rfl := len_nil k4
  have g0 : DataW.trod enc Tryz.prog W 0 (fun _ => true) true fu 3 (([c0, c1, c2, c3].drop 0).take (Tryz.prog.cellsOf 3)) = some y0 := hf 0 _ rfl
  rw [show Tryz.prog.cellsOf 3 = 1 by kernel_rfl] at g0
  have g1 : DataW.trod enc Tryz.prog W 0 (fun _ => true) true fu 3 (([c0, c1, c2, c3].drop 1).take (Tryz.prog.cellsOf 3)) = some y1 := hf 1 _ rfl
  rw [show Tryz.prog.cellsOf 3 = 1 by kernel_rfl] at g1
  have g2 : DataW.trod enc Tryz.prog W 0 (fun _ => true) true fu 9 (([c0, c1, c2, c3].drop 2).take (Tryz.prog.cellsOf 9)) = some y2 := hf 2 _ rfl
  rw [show Tryz.prog.cellsOf 9 = 1 by kernel_rfl] at g2
  have g3 : DataW.trod enc Tryz.prog W 0 (fun _ => true) true fu 44 (([c0, c1, c2, c3].drop 3).take (Tryz.prog.cellsOf 44)) = some y3 := hf 3 _ rfl
  rw [show Tryz.prog.cellsOf 44 = 1 by kernel_rfl] at g3
  clear hf
  simp only [List.drop_zero, List.drop_succ_cons, List.take_succ_cons, List.take_zero] at g0 g1 g2 g3
  obtain ⟨f0, e0, _, w0⟩ := DataW.trod_int Tryz.underlying3 g0
  obtain ⟨f1, e1, _, w1⟩ := DataW.trod_int Tryz.underlying3 g1
  obtain ⟨f2, e2, _, w2⟩ := DataW.trod_string Tryz.underlying9 g2
  obtain ⟨f3, u3, q3, e3, hu3, hr3⟩ := Zp (X := T) (val := T.av) (Good := T.ok) (s := 4) Tryz.underlying44 (by kernel_rfl) (by omega) (fun t => by rw [T.Qj2]; rfl) (fun m cs y hm hy => ih m (by omega) cs y hy) g3
  have n3 := Zl hr3
  rw [← QaJ] at hr3
  cases e0
  cases e1
  cases e2
  cases e3
  refine ⟨.mk f0 f1 f2 f3, by simp only [T.ok]; exact ⟨Qgv w0, Qgv w1, Qgm w2, Qgh _ q3⟩, rfl, fun j x v hx hv => ?_⟩
  rw [T.Qj2] at hx
  simp only [T.kind, T.int, T.name, T.args] at hx
  match j, hx, hv with
  | 0, hx, hv => simp at hx hv; subst hx; subst hv; exact ⟨.v _, rfl⟩
  | 1, hx, hv => simp at hx hv; subst hx; subst hv; exact ⟨.v _, rfl⟩
  | 2, hx, hv => simp at hx hv; subst hx; subst hv; exact ⟨.v _, rfl⟩
  | 3, hx, hv => simp at hx hv; subst hx; subst hv; exact ⟨hr3, hu3⟩
  | j + 4, hx, hv => simp at hx
theorem Qfe {H : Type} (enc : TypeId × Value → H) (W : World) (fuel : Nat) (cs : List Value) (y : DataW H × List MemPlace) (h : DataW.trod enc Tryz.prog W 0 (fun _ => true) true fuel 66 cs = some y) : ∃ p : G, G.ok p ∧ Reads W (G.atom p) cs := by
  obtain ⟨xs, fu, hfu, _, hl, hlen, hf⟩ := DataW.trod_struct Tryz.underlying66 h
  have hC : Tryz.prog.cellsOf 66 = 2 := by kernel_rfl
  rw [hC] at hl
  have hlenN : xs.length = 2 := hlen
  obtain ⟨y0, l1, rfl, k1⟩ := Xq hlenN
  obtain ⟨y1, l2, rfl, k2⟩ := Xq k1
  obtain rfl := len_nil k2
  obtain ⟨c0, l1, rfl, k1⟩ := Xq hl
  obtain ⟨c1, l2, rfl, k2⟩ := Xq k1
  obtain rfl := len_nil k2
  have g0 : DataW.trod enc Tryz.prog W 0 (fun _ => true) true fu 9 (([c0, c1].drop 0).take (Tryz.prog.cellsOf 9)) = some y0 := hf 0 _ rfl
  rw [show Tryz.prog.cellsOf 9 = 1 by kernel_rfl] at g0
  have g1 : DataW.trod enc Tryz.prog W 0 (fun _ => true) true fu 44 (([c0, c1].drop 1).take (Tryz.prog.cellsOf 44)) = some y1 := hf 1 _ rfl
  rw [show Tryz.prog.cellsOf 44 = 1 by kernel_rfl] at g1
  clear hf
  simp only [List.drop_zero, List.drop_succ_cons, List.take_succ_cons, List.take_zero] at g0 g1
  obtain ⟨f0, e0, _, w0⟩ := DataW.trod_string Tryz.underlying9 g0
  obtain ⟨f1, u1, q1, e1, hu1, hr1⟩ := Zp (X := T) (val := T.av) (Good := T.ok) (s := 4) Tryz.underlying44 (by kernel_rfl) (by omega) (fun t => by rw [T.Qj2]; rfl) (fun m cs y _ hy => QfB enc W m cs y hy) g1
  have n1 := Zl hr1
  rw [← QaJ] at hr1
  cases e0
  cases e1
  refine ⟨⟨0, f0, f1⟩, ⟨by show i64 0; unfold i64; omega, Qgm w0, Qgh _ q1⟩, rfl, fun j x v hx hv => ?_⟩
  rw [XI] at hx
  match j, hx, hv with
  | 0, hx, hv => simp at hx hv; subst hx; subst hv; exact ⟨.v _, rfl⟩
  | 1, hx, hv => simp at hx hv; subst hx; subst hv; exact ⟨hr1, hu1⟩
  | j + 2, hx, hv => simp at hx
theorem Qff {H : Type} (enc : TypeId × Value → H) (W : World) (fuel : Nat) (cs : List Value) (y : DataW H × List MemPlace) (h : DataW.trod enc Tryz.prog W 0 (fun _ => true) true fuel 53 cs = some y) : ∃ p : G, G.ok p ∧ Reads W (G.goal p) cs := by
  obtain ⟨xs, fu, hfu, _, hl, hlen, hf⟩ := DataW.trod_struct Tryz.underlying53 h
  have hC : Tryz.prog.cellsOf 53 = 3 := by kernel_rfl
  rw [hC] at hl
  have hlenN : xs.length = 3 := hlen
  obtain ⟨y0, l1, rfl, k1⟩ := Xq hlenN
  obtain ⟨y1, l2, rfl, k2⟩ := Xq k1
  obtain ⟨y2, l3, rfl, k3⟩ := Xq k2
  obtain rfl := len_nil k3
  obtain ⟨c0, l1, rfl, k1⟩ := Xq hl
  obtain ⟨c1, l2, rfl, k2⟩ := Xq k1
  obtain ⟨c2, l3, rfl, k3⟩ := Xq k2
  obtain rfl := len_nil k3
  have g0 : DataW.trod enc Tryz.prog W 0 (fun _ => true) true fu 3 (([c0, c1, c2].drop 0).take (Tryz.prog.cellsOf 3)) = some y0 := hf 0 _ rfl
  rw [show Tryz.prog.cellsOf 3 = 1 by kernel_rfl] at g0
  have g1 : DataW.trod enc Tryz.prog W 0 (fun _ => true) true fu 9 (([c0, c1, c2].drop 1).take (Tryz.prog.cellsOf 9)) = some y1 := hf 1 _ rfl
  rw [show Tryz.prog.cellsOf 9 = 1 by kernel_rfl] at g1
  have g2 : DataW.trod enc Tryz.prog W 0 (fun _ => true) true fu 44 (([c0, c1, c2].drop 2).take (Tryz.prog.cellsOf 44)) = some y2 := hf 2 _ rfl
  rw [show Tryz.prog.cellsOf 44 = 1 by kernel_rfl] at g2
  clear hf
  simp only [List.drop_zero, List.drop_succ_cons, List.take_succ_cons, List.take_zero] at g0 g1 g2
  obtain ⟨f0, e0, _, w0⟩ := DataW.trod_int Tryz.underlying3 g0
  obtain ⟨f1, e1, _, w1⟩ := DataW.trod_string Tryz.underlying9 g1
  obtain ⟨f2, u2, q2, e2, hu2, hr2⟩ := Zp (X := T) (val := T.av) (Good := T.ok) (s := 4) Tryz.underlying44 (by kernel_rfl) (by omega) (fun t => by rw [T.Qj2]; rfl) (fun m cs y _ hy => QfB enc W m cs y hy) g2
  have n2 := Zl hr2
  rw [← QaJ] at hr2
  cases e0
  cases e1
  cases e2
  refine ⟨⟨f0, f1, f2⟩, ⟨Qgv w0, Qgm w1, Qgh _ q2⟩, rfl, fun j x v hx hv => ?_⟩
  rw [Q2] at hx
  match j, hx, hv with
  | 0, hx, hv => simp at hx hv; subst hx; subst hv; exact ⟨.v _, rfl⟩
  | 1, hx, hv => simp at hx hv; subst hx; subst hv; exact ⟨.v _, rfl⟩
  | 2, hx, hv => simp at hx hv; subst hx; subst hv; exact ⟨hr2, hu2⟩
  | j + 3, hx, hv => simp at hx
theorem QiB {H : Type} (enc : TypeId × Value → H) (W : World) (fuel : Nat) (cs : List Value) (y : DataW H × List MemPlace) (h : DataW.trod enc Tryz.prog W 0 (fun _ => true) true fuel 25 cs = some y) : ∃ p : Rl, Rl.ok p ∧ Reads W (Rl.av p) cs := by
  obtain ⟨xs, fu, hfu, _, hl, hlen, hf⟩ := DataW.trod_struct Tryz.underlying25 h
  have hC : Tryz.prog.cellsOf 25 = 6 := by kernel_rfl
  rw [hC] at hl
  have hlenN : xs.length = 6 := hlen
  obtain ⟨y0, l1, rfl, k1⟩ := Xq hlenN
  obtain ⟨y1, l2, rfl, k2⟩ := Xq k1
  obtain ⟨y2, l3, rfl, k3⟩ := Xq k2
  obtain ⟨y3, l4, rfl, k4⟩ := Xq k3
  obtain ⟨y4, l5, rfl, k5⟩ := Xq k4
  obtain ⟨y5, l6, rfl, k6⟩ := Xq k5
  obtain rfl := len_nil k6
  obtain ⟨c0, l1, rfl, k1⟩ := Xq hl
  obtain ⟨c1, l2, rfl, k2⟩ := Xq k1
  obtain ⟨c2, l3, rfl, k3⟩ := Xq k2
  obtain ⟨c3, l4, rfl, k4⟩ := Xq k3
  obtain ⟨c4, l5, rfl, k5⟩ := Xq k4
  obtain ⟨c5, l6, rfl, k6⟩ := Xq k5
  obtain rfl := len_nil k6
  have g0 : DataW.trod enc Tryz.prog W 0 (fun _ => true) true fu 9 (([c0, c1, c2, c3, c4, c5].drop 0).take (Tryz.prog.cellsOf 9)) = some y0 := hf 0 _ rfl
  rw [show Tryz.prog.cellsOf 9 = 1 by kernel_rfl] at g0
  have g1 : DataW.trod enc Tryz.prog W 0 (fun _ => true) true fu 22 (([c0, c1, c2, c3, c4, c5].drop 1).take (Tryz.prog.cellsOf 22)) = some y1 := hf 1 _ rfl
  rw [show Tryz.prog.cellsOf 22 = 1 by kernel_rfl] at g1
  have g2 : DataW.trod enc Tryz.prog W 0 (fun _ => true) true fu 22 (([c0, c1, c2, c3, c4, c5].drop 2).take (Tryz.prog.cellsOf 22)) = some y2 := hf 2 _ rfl
  rw [show Tryz.prog.cellsOf 22 = 1 by kernel_rfl] at g2
  have g3 : DataW.trod enc Tryz.prog W 0 (fun _ => true) true fu 23 (([c0, c1, c2, c3, c4, c5].drop 3).take (Tryz.prog.cellsOf 23)) = some y3 := hf 3 _ rfl
  rw [show Tryz.prog.cellsOf 23 = 1 by kernel_rfl] at g3
  have g4 : DataW.trod enc Tryz.prog W 0 (fun _ => true) true fu 23 (([c0, c1, c2, c3, c4, c5].drop 4).take (Tryz.prog.cellsOf 23)) = some y4 := hf 4 _ rfl
  rw [show Tryz.prog.cellsOf 23 = 1 by kernel_rfl] at g4
  have g5 : DataW.trod enc Tryz.prog W 0 (fun _ => true) true fu 3 (([c0, c1, c2, c3, c4, c5].drop 5).take (Tryz.prog.cellsOf 3)) = some y5 := hf 5 _ rfl
  rw [show Tryz.prog.cellsOf 3 = 1 by kernel_rfl] at g5
  clear hf
  simp only [List.drop_zero, List.drop_succ_cons, List.take_succ_cons, List.take_zero] at g0 g1 g2 g3 g4 g5
  obtain ⟨f0, e0, _, w0⟩ := DataW.trod_string Tryz.underlying9 g0
  obtain ⟨f1, u1, q1, e1, hu1, hr1⟩ := Zp (X := G) (val := G.atom) (Good := G.ok) (s := 2) Tryz.underlying22 (by kernel_rfl) (by omega) (fun t => by rw [XI]; rfl) (fun m cs y _ hy => Qfe enc W m cs y hy) g1
  have n1 := Zl hr1
  obtain ⟨f2, u2, q2, e2, hu2, hr2⟩ := Zp (X := G) (val := G.atom) (Good := G.ok) (s := 2) Tryz.underlying22 (by kernel_rfl) (by omega) (fun t => by rw [XI]; rfl) (fun m cs y _ hy => Qfe enc W m cs y hy) g2
  have n2 := Zl hr2
  obtain ⟨f3, u3, q3, e3, hu3, hr3⟩ := Zp (X := G) (val := G.goal) (Good := G.ok) (s := 3) Tryz.underlying23 (by kernel_rfl) (by omega) (fun t => by rw [Q2]; rfl) (fun m cs y _ hy => Qff enc W m cs y hy) g3
  have n3 := Zl hr3
  obtain ⟨f4, u4, q4, e4, hu4, hr4⟩ := Zp (X := G) (val := G.goal) (Good := G.ok) (s := 3) Tryz.underlying23 (by kernel_rfl) (by omega) (fun t => by rw [Q2]; rfl) (fun m cs y _ hy => Qff enc W m cs y hy) g4
  have n4 := Zl hr4
  obtain ⟨f5, e5, _, w5⟩ := DataW.trod_int Tryz.underlying3 g5
  cases e0
  cases e1
  cases e2
  cases e3
  cases e4
  cases e5
  refine ⟨⟨f0, f1, f2, f3, f4, f5⟩, ⟨Qgm w0, n1, n2, n3, n4, q1, q2, q3, q4⟩, rfl, fun j x v hx hv => ?_⟩
  rw [Rl.cells] at hx
  match j, hx, hv with
  | 0, hx, hv => simp at hx hv; subst hx; subst hv; exact ⟨.v _, rfl⟩
  | 1, hx, hv => simp at hx hv; subst hx; subst hv; exact ⟨hr1, hu1⟩
  | 2, hx, hv => simp at hx hv; subst hx; subst hv; exact ⟨hr2, hu2⟩
  | 3, hx, hv => simp at hx hv; subst hx; subst hv; exact ⟨hr3, hu3⟩
  | 4, hx, hv => simp at hx hv; subst hx; subst hv; exact ⟨hr4, hu4⟩
  | 5, hx, hv => simp at hx hv; subst hx; subst hv; exact ⟨.v _, rfl⟩
  | j + 6, hx, hv => simp at hx
end Go.Proofs.YtenheconhibonaaGreatDoor.Ab
