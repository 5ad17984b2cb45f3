/-
  An abstract program logic, contracts of functions, and laws of terms and rules (part 6).
-/
import Derived.Test.YtenheconhibonaaGreatDoorAbFive
set_option linter.unusedVariables false
set_option linter.unusedSimpArgs false
set_option maxHeartbeats 4000000
set_option maxRecDepth 4000
namespace Go.Proofs.YtenheconhibonaaGreatDoor.Ab
open Go.Proofs
theorem QjD {s : ByteArray} (f : Int) (h : opB s = true) : ¬ QbI f s := by
  simp only [opB, Bool.or_eq_true, beq_iff_eq, Lib.toList_data] at h
  have stop : ∀ c : UInt8, s.data.toList = [c] → ¬ fol ((c.toNat : Nat) : Int) → ¬ QbI f s := fun c hl hc hw => by
    have := hw.2.2.2 0 hw.1
    unfold byteAt at this
    rw [hl] at this
    exact hc this
  rcases h with (((h | h) | h) | h) | h
  · exact stop _ h (by decide)
  · exact stop _ h (by decide)
  · exact stop _ h (by decide)
  · exact stop _ h (by decide)
  · exact stop _ h (by decide)
theorem Qih {s : ByteArray} (h : opB s = true) : Yv s = false := by
  rw [Yv, decide_eq_false (QjD 1 h), Bool.false_and]
theorem QkP {s : ByteArray} (h : opB s = false) : ofB s = 0 := by
  simp only [opB, Bool.or_eq_false_iff] at h
  obtain ⟨⟨⟨⟨h1, h2⟩, h3⟩, h4⟩, h5⟩ := h
  rw [ofB, h1, h2, h3, h4, h5]; rfl
theorem QiW {s : ByteArray} (h : opB s = true) : ofB s = if ((s.toList == ({ data := #[43] } : ByteArray).toList) || (s.toList == ({ data := #[45] } : ByteArray).toList)) = true then 1 else 2 := by
  rw [ofB]
  cases h1 : (s.toList == ({ data := #[43] } : ByteArray).toList) || (s.toList == ({ data := #[45] } : ByteArray).toList) with
  | true => rfl
  | false =>
    simp only [opB, h1, Bool.false_or] at h
    rw [if_neg (by simp), if_pos h, if_neg (by simp)]
def T.strI (t : T) : Int := if t.kind ≠ 2 ∨ opB t.name = false then 3 else ofB t.name
theorem Qb0 (t : T) : Pure Tryz.prog 154 [t.av] (.i t.strI) := by
  intro h
  have co := QaN t.name
  by_cases k2 : t.kind = 2
  · have z2 : (t.kind != 2) = false := by simp [k2]
    cases ho : opB t.name with
    | false =>
      rw [ho] at co
      rw [T.strI, if_pos (.inr ho)]
      refine Qh Tryz.func154 rfl Tryz.call154 Tryz.ntmps154 (congrArg Array.toList Tryz.results154) (by simp) ?_
      repeat (first | ((first | (with_reducible (first | refine Qa fun K E hK hE => ?_ | refine Qs co ?_))); simp -implicitDefEqProofs only [Qd, Qb, Qg, OpW, QR, aop, undef, AS.ev, Qc, Qq, Qk, QD, QlK, AV.Qk5, QlX, QlY, QC, QA, QI, QlZ, Ql1, ↓reduceIte, QlQ, QlR, Nat.reduceAdd, Nat.reduceLT, Nat.reduceEqDiff, QlP, Ql2, Ql, QK, QL, aBin, QO, QlD, QlE, QlF, QlI, QlG, QlS, QlW, XA, Xb, QlL, QlH, T.Qk4, ti3, ti9, Xu, XM, T.Qk4, z2]) | (with_reducible (first | refine Qi fun K hK => ?_ | refine Qn ?_ | refine QB ?_)) | ((with_reducible refine hK _ ?_); clear hK) | (refine Qj rfl ?_; simp only [↓reduceIte]))
      simp only [QN, Qp, Qu, upd, ↓reduceIte, QlJ, QlN]; first | refine Qe (htake _ _) (.keep (.v _)) ⟨rfl, rfl⟩ | refine Qe List.take_length (.keep (.v _)) ⟨rfl, rfl⟩
    | true =>
      have e := QiW ho
      rw [ho] at co
      rw [T.strI, if_neg (by rw [ho]; simp [k2]), e]
      cases b1 : (t.name.toList == ({ data := #[43] } : ByteArray).toList) with
      | true =>
        refine Qh Tryz.func154 rfl Tryz.call154 Tryz.ntmps154 (congrArg Array.toList Tryz.results154) (by simp) ?_
        repeat (first | ((first | (with_reducible (first | refine Qa fun K E hK hE => ?_ | refine Qs co ?_))); simp -implicitDefEqProofs only [Qd, Qb, Qg, OpW, QR, aop, undef, AS.ev, Qc, Qq, Qr, QF, Qk, QD, QlK, AV.Qk5, QlX, QlY, QC, QA, QI, QlZ, Ql0, ↓reduceIte, QlQ, QlR, Nat.reduceAdd, Nat.reduceLT, Nat.reduceEqDiff, QlP, Ql2, Ql, QK, QL, aBin, QO, QlD, QlE, QlF, QlI, QlG, QlS, QlW, XA, Xb, QZ, QlL, QlH, beq_false, T.Qk4, ti3, ti9, Xu, XM, T.Qk4, z2, b1]) | (with_reducible (first | refine Qi fun K hK => ?_ | refine Qn ?_ | refine Qv ?_ | refine Qf ?_ | refine QB ?_)) | ((with_reducible refine hK _ ?_); clear hK) | (refine Qj rfl ?_; simp only [↓reduceIte, QlH]))
        simp only [QN, Qp, Qu, upd, ↓reduceIte, QlJ, QlN]; first | refine Qe (htake _ _) (.keep (.v _)) ⟨rfl, rfl⟩ | refine Qe List.take_length (.keep (.v _)) ⟨rfl, rfl⟩
      | false =>
        cases b2 : (t.name.toList == ({ data := #[45] } : ByteArray).toList) with
        | true =>
          refine Qh Tryz.func154 rfl Tryz.call154 Tryz.ntmps154 (congrArg Array.toList Tryz.results154) (by simp) ?_
          repeat (first | ((first | (with_reducible (first | refine Qa fun K E hK hE => ?_ | refine Qs co ?_))); simp -implicitDefEqProofs only [Qd, Qb, Qg, OpW, QR, aop, undef, AS.ev, Qc, Qq, QF, Qk, QD, QlK, AV.Qk5, QlX, QlY, QC, QA, QI, QlZ, Ql0, ↓reduceIte, QlQ, QlR, Nat.reduceAdd, Nat.reduceLT, Nat.reduceEqDiff, QlP, Ql2, Ql, QK, QL, aBin, QO, QlD, QlE, QlF, QlI, QlG, QlS, QlW, XA, Xb, QZ, QlL, QlH, T.Qk4, ti3, ti9, Xu, XM, T.Qk4, z2, b1, b2]) | (with_reducible (first | refine Qi fun K hK => ?_ | refine Qn ?_ | refine Qv ?_ | refine Qf ?_ | refine QB ?_)) | ((with_reducible refine hK _ ?_); clear hK) | (refine Qj rfl ?_; simp only [↓reduceIte, QlH]))
          simp only [QN, Qp, Qu, upd, ↓reduceIte, QlJ, QlN]; first | refine Qe (htake _ _) (.keep (.v _)) ⟨rfl, rfl⟩ | refine Qe List.take_length (.keep (.v _)) ⟨rfl, rfl⟩
        | false =>
          refine Qh Tryz.func154 rfl Tryz.call154 Tryz.ntmps154 (congrArg Array.toList Tryz.results154) (by simp) ?_
          repeat (first | ((first | (with_reducible (first | refine Qa fun K E hK hE => ?_ | refine Qs co ?_))); simp -implicitDefEqProofs only [Qd, Qb, Qg, OpW, QR, aop, undef, AS.ev, Qc, Qq, QF, Qk, QD, QlK, AV.Qk5, QlX, QlY, QC, QA, QI, QlZ, Ql0, ↓reduceIte, QlQ, QlR, Nat.reduceAdd, Nat.reduceLT, Nat.reduceEqDiff, QlP, Ql2, Ql, QK, QL, aBin, QO, QlD, QlE, QlF, QlI, QlG, QlS, QlW, XA, Xb, QZ, QlL, QlH, T.Qk4, ti3, ti9, Xu, XM, T.Qk4, z2, b1, b2]) | (with_reducible (first | refine Qi fun K hK => ?_ | refine Qn ?_ | refine Qv ?_ | refine Qf ?_)) | ((with_reducible refine hK _ ?_); clear hK) | (refine Qj rfl ?_; simp only [↓reduceIte, QlH]))
          simp only [QN, Qp, Qu, upd, ↓reduceIte, QlJ, QlN]; first | refine Qe (htake _ _) (.keep (.v _)) ⟨rfl, rfl⟩ | refine Qe List.take_length (.keep (.v _)) ⟨rfl, rfl⟩
  · have z2 : (t.kind != 2) = true := by simp [k2]
    rw [T.strI, if_pos (.inl k2)]
    refine Qh Tryz.func154 rfl Tryz.call154 Tryz.ntmps154 (congrArg Array.toList Tryz.results154) (by simp) ?_
    repeat (first | (((with_reducible refine Qa fun K E hK hE => ?_)); simp -implicitDefEqProofs only [Qd, Qb, Qg, OpW, aop, undef, AS.ev, Qc, Qq, Qr, Qk, QD, QlK, AV.Qk5, QlX, QlY, QC, QA, QI, QlZ, Ql0, ↓reduceIte, QlQ, QlR, Nat.reduceAdd, Nat.reduceLT, Nat.reduceEqDiff, QlP, Ql2, Ql, QK, QL, aBin, QO, QlD, QlE, QlF, QlI, QlG, XA, beq_false, T.Qk4, ti3, Xu, T.Qk4, z2]) | (with_reducible (first | refine Qi fun K hK => ?_ | refine Qn ?_ | refine QB ?_)) | ((with_reducible refine hK _ ?_); clear hK) | (refine Qj rfl ?_; simp only [↓reduceIte]))
    simp only [QN, Qp, Qu, upd, ↓reduceIte, QlJ, QlN]; first | refine Qe (htake _ _) (.keep (.v _)) ⟨rfl, rfl⟩ | refine Qe List.take_length (.keep (.v _)) ⟨rfl, rfl⟩
theorem T.Qlk {t : T} (hf : t.Qk7 = true) (k2 : t.kind = 2) : t.int = 0 ∧ t.args.length ≤ 6 ∧ (Yv t.name = true ∨ opB t.name = true ∧ t.args.length = 2) ∧ YT t.args = true := by
  rw [T.Qk8, if_neg (by omega), if_neg (by omega), if_pos k2] at hf
  split at hf
  · cases hf
  rename_i h1
  split at hf
  · cases hf
  rename_i h2
  refine ⟨by omega, by omega, ?_, hf⟩
  cases hr : Yv t.name with
  | true => exact .inl rfl
  | false =>
    refine .inr ?_
    rw [hr] at h2
    cases ho : opB t.name with
    | false => rw [ho] at h2; exact absurd rfl h2
    | true =>
      rw [ho] at h2
      refine ⟨rfl, ?_⟩
      apply Classical.byContradiction
      intro hc
      rw [decide_eq_false hc] at h2
      exact h2 rfl
theorem T.Qlg {t : T} (hf : t.Qk7 = true) : t.strI = if t.oper = 0 then 3 else t.oper := by
  by_cases k2 : t.kind = 2
  · obtain ⟨_, _, hn, _⟩ := T.Qlk hf k2
    cases ho : opB t.name with
    | false =>
      have e : t.oper = 0 := by rw [T.oper, QkP ho]; simp
      rw [T.strI, if_pos (.inr ho), e, if_pos rfl]
    | true =>
      have hl : t.args.length = 2 := by
        rcases hn with hn | hn
        · rw [Qih ho] at hn; cases hn
        · exact hn.2
      have e : t.oper = ofB t.name := by rw [T.oper, if_neg (by omega)]
      have e2 : ofB t.name ≠ 0 := by rw [QiW ho]; split <;> decide
      rw [T.strI, if_neg (by rw [ho]; simp [k2]), e, if_neg e2]
  · have e : t.oper = 0 := by rw [T.oper, if_pos (.inl k2)]
    rw [T.strI, if_pos (.inl k2), e, if_pos rfl]
theorem T.Qlh (t : T) : t.oper = 0 ∨ t.oper = 1 ∨ t.oper = 2 := by
  rw [T.oper]; split
  · exact .inl rfl
  · rw [ofB]; split
    · exact .inr (.inl rfl)
    · split
      · exact .inr (.inr rfl)
      · exact .inl rfl
theorem T.Qlb {t : T} (hf : t.Qk7 = true) : t.lex ∧ t.txt.size + 4 ≤ 60 * t.size ∧ 0 < t.txt.size := by
  have hr : (t.run t.size t.dep).1 = true := by rw [(T.Qld t t.size t.dep).1, hf, decide_eq_true ⟨Int.le_refl _, Int.le_refl _⟩]; rfl
  obtain ⟨h1, h2, h3, _⟩ := T.Qls t t.size t.dep hr
  rw [(T.Qld t t.size t.dep).2 hr] at h2
  exact ⟨h1, by omega, h3⟩
theorem Qgz {l : List T} (hf : YT l = true) : (XV true (txts l)).size ≤ 60 * sizes l := by
  have hr : (runL l (sizes l) (deps l)).1 = true := by rw [(QaY l (sizes l) (deps l) (by omega) (by omega)).1, hf, decide_eq_true ⟨Int.le_refl _, Int.le_refl _⟩]; rfl
  obtain ⟨_, h2, _⟩ := Qcg l (sizes l) (deps l) hr
  rw [(QaY l (sizes l) (deps l) (by omega) (by omega)).2 hr] at h2
  have := Qc8 (txts l) true
  omega
theorem ZZ : ∀ {l : List T}, YT l = true → ∀ t ∈ l, t.Qk7 = true
  | x :: l, h, t, ht => by
    simp only [YT, Bool.and_eq_true] at h
    rcases List.mem_cons.1 ht with rfl | ht
    · exact h.1
    · exact ZZ h.2 t ht
theorem QdF : ∀ {l : List T} (k : Nat), YT l = true → YT (l.take k) = true
  | [], k, h => by simp [YT]
  | x :: l, 0, h => rfl
  | x :: l, k + 1, h => by
    simp only [YT, Bool.and_eq_true, QlO] at h ⊢
    exact ⟨h.1, QdF k h.2⟩
theorem Qat (x : ByteArray) : ∀ (l : List ByteArray) (f : Bool), XV f (l ++ [x]) = XV f l ++ (if f && l.isEmpty then x else YP ++ x)
  | [], f => by
    simp only [Ql4, XV, Qmj, Qmm, ByteArray.append_empty]
    rw [show (ByteArray.empty ++ if f = true then x else YP ++ x) = if f = true then x else YP ++ x from ByteArray.empty_append]
  | y :: l, f => by
    rw [List.cons_append, XV, XV, Qat x l false, ByteArray.append_assoc]
    simp
theorem QgV (a b : List T) : txts (a ++ b) = txts a ++ txts b := by simp only [Qjx, List.map_append]
theorem Qd2 {l : List T} {k : Nat} (h : k < l.length) : txts (l.take (k + 1)) = txts (l.take k) ++ [(l[k]).txt] := by
  rw [List.take_succ_eq_append_getElem h, QgV]; rfl
def WrP (n : Nat) : Prop := ∀ t : T, t.nds ≤ n → t.Qk7 = true → t.ok → Pure Tryz.prog 131 [t.av] (.v (.string t.txt))
theorem Qa1 (n : Nat) (ih : WrP n) (hb : n ≤ 1000000) (t : T) (hn : t.nds ≤ n) (hf : t.Qk7 = true) (ho : t.ok) (p q : Int) (hp : 0 ≤ p ∧ p ≤ 9) (hq : 0 ≤ q ∧ q ≤ 9) :
    Pure Tryz.prog 155 [t.av, .i p, .i q] (.v (.string (encB (decide (t.strI < p + q)) t.txt))) := by
  intro h
  have c1 := Qb0 t
  have c2 := ih t hn hf ho
  have hw : IntKind.i64.wrap (p + q) = p + q := Yh (by omega)
  obtain ⟨_, hs, _⟩ := T.Qlb hf
  have hsz := T.Qla t
  have hsa1 := fun xo yo => Xl Tryz.prog 9 xo yo ({ data := #[40] } : ByteArray) t.txt (by have : ({ data := #[40] } : ByteArray).size = 1 := rfl; omega)
  have hsa2 := fun xo yo => Xl Tryz.prog 9 xo yo (({ data := #[40] } : ByteArray) ++ t.txt) ({ data := #[41] } : ByteArray) (by rw [Qt]; have : ({ data := #[40] } : ByteArray).size = 1 := rfl; have : ({ data := #[41] } : ByteArray).size = 1 := rfl; omega)
  by_cases z : t.strI < p + q
  · rw [decide_eq_true z, encB, if_pos rfl]
    refine Qh Tryz.func155 rfl Tryz.call155 Tryz.ntmps155 (congrArg Array.toList Tryz.results155) (by simp) ?_
    repeat (first | ((first | (with_reducible (first | refine Qa fun K E hK hE => ?_ | refine Qs c1 ?_ | refine Qs c2 ?_))); simp -implicitDefEqProofs only [Qd, Qb, Qg, OpW, QR, aop, undef, AS.ev, Qc, QF, Qk, QD, QlK, Ql3, AV.Qk5, QlX, QlY, QC, QA, QI, QlZ, ↓reduceIte, QlQ, QlR, Nat.reduceAdd, Nat.reduceLT, Nat.reduceEqDiff, QlP, Qmb, QK, QL, aBin, QO, QlD, QlF, QlS, QlW, QW, Xf, Ql9, T.Qk4, T.Qk6, ti69, T.Qk6, T.Qk4, hw, z, hsa1, hsa2]) | (with_reducible (first | refine Qi fun K hK => ?_ | refine Qn ?_ | refine QB ?_)) | ((with_reducible refine hK _ ?_); clear hK) | (refine Qj rfl ?_; simp only [↓reduceIte]))
    simp only [QN, Qp, Qu, upd, ↓reduceIte, QlJ, QlN]; first | refine Qe (htake _ _) (.keep (.v _)) ⟨rfl, rfl⟩ | refine Qe List.take_length (.keep (.v _)) ⟨rfl, rfl⟩
  · rw [decide_eq_false z, encB, if_neg (by simp)]
    refine Qh Tryz.func155 rfl Tryz.call155 Tryz.ntmps155 (congrArg Array.toList Tryz.results155) (by simp) ?_
    repeat (first | ((first | (with_reducible (first | refine Qa fun K E hK hE => ?_ | refine Qs c1 ?_ | refine Qs c2 ?_))); simp -implicitDefEqProofs only [Qd, Qb, Qg, OpW, QR, aop, undef, AS.ev, Qc, QF, Qk, QD, QlK, Ql3, AV.Qk5, QlX, QlY, QC, QA, QI, QlZ, ↓reduceIte, QlQ, QlR, Nat.reduceAdd, Nat.reduceLT, Nat.reduceEqDiff, QlP, Qmb, QK, QL, aBin, QO, QlD, QlF, QlS, QlW, QW, Xf, Qma, T.Qk4, T.Qk6, ti69, T.Qk6, T.Qk4, hw, z]) | (with_reducible (first | refine Qi fun K hK => ?_ | refine Qn ?_ | refine Qv ?_ | refine Qf ?_)) | ((with_reducible refine hK _ ?_); clear hK) | (refine Qj rfl ?_; simp only [↓reduceIte, QlH]))
    simp only [QN, Qp, Qu, upd, ↓reduceIte, QlJ, QlN]; first | refine Qe (htake _ _) (.keep (.v _)) ⟨rfl, rfl⟩ | refine Qe List.take_length (.keep (.v _)) ⟨rfl, rfl⟩
theorem QfB (n : Nat) (ih : WrP n) (hb : n ≤ 1000000) (l : List T) (hn : ndsL l ≤ n) (hf : YT l = true) (ho : oks l) :
    Pure Tryz.prog 153 [.sl 4 (avs l) none] (.v (.string (XV true (txts l)))) := by
  intro h
  have hll := XK l
  have hsl := Qbe l
  refine Qh Tryz.func153 rfl Tryz.call153 Tryz.ntmps153 (congrArg Array.toList Tryz.results153) (by simp) ?_
  repeat (first | (((with_reducible refine Qa fun K E hK hE => ?_)); simp -implicitDefEqProofs only [Qd, Qb, Qg, OpW, aop, AS.ev, Qc, Qq, QF, Nat.reduceLT]) | (with_reducible (first | refine Qi fun K hK => ?_ | refine Qm ?_)) | ((with_reducible refine hK _ ?_); clear hK))
  obtain ⟨I, hI⟩ : ∃ I : Nat → AS → Prop, I = fun m' s => ∃ k : Nat, m' = l.length - k ∧ k ≤ l.length ∧ s.tm 0 = .sl 4 (avs l) none ∧ s.tm 3 = .v (.string (XV true (txts (l.take k)))) ∧ s.tm 4 = .i k ∧ s.h = h := ⟨_, rfl⟩; refine Q9 I ?_ (m := l.length) ?_
  · intro m' s hs; rw [hI] at hs; obtain ⟨tm, hp⟩ := s; dsimp only at hs; obtain ⟨k, rfl, hk, t0, t3, t4, rfl⟩ := hs
    by_cases hlt : k < l.length
    · have hg := Y0 hlt
      have z9 : (k : Int) < l.length := by omega
      have hm := List.getElem_mem hlt
      have hfk := ZZ hf _ hm
      have hnk : (l[k]).nds ≤ n := Nat.le_trans (ZK hlt) hn
      have c := ih l[k] hnk hfk (Qdk hlt ho)
      have hs1 := Qgz (QdF k hf)
      have hs2 := QaG l k
      obtain ⟨_, hs3, _⟩ := T.Qlb hfk
      have hs4 := T.Qla l[k]
      have hsc : ({ data := #[44, 32] } : ByteArray).size = 2 := rfl
      have hj : XV true (txts (l.take (k + 1))) = XV true (txts (l.take k)) ++ (if (true && (txts (l.take k)).isEmpty) = true then (l[k]).txt else YP ++ (l[k]).txt) := by
        rw [Qd2 hlt, Qat]
      obtain ⟨J, eJ⟩ : ∃ J, J = XV true (txts (l.take k)) := ⟨_, rfl⟩
      rw [← eJ] at t3 hs1 hj
      have hsa1 := fun xo yo => Xl Tryz.prog 9 xo yo J ({ data := #[44, 32] } : ByteArray) (by omega)
      have hsa2 := fun xo yo => Xl Tryz.prog 9 xo yo (J ++ ({ data := #[44, 32] } : ByteArray)) (l[k]).txt (by rw [Qt]; omega)
      have hsa3 := fun xo yo => Xl Tryz.prog 9 xo yo J (l[k]).txt (by omega)
      by_cases k0 : k = 0
      · have z0 : ¬ (k : Int) > 0 := by omega
        have hj' : XV true (txts (l.take (k + 1))) = J ++ (l[k]).txt := by
          have hem : (txts (l.take k)).isEmpty = true := by rw [k0]; rfl
          rw [hj, hem]; rfl
        repeat (first | ((first | (with_reducible (first | refine Qa fun K E hK hE => ?_ | refine Qo fun K E hK hE => ?_ | refine Qs c ?_))); simp -implicitDefEqProofs only [Qd, Qb, Qg, OpW, QR, aop, AS.ev, Qc, Qq, Qk, ↓reduceIte, QlQ, QlR, Nat.reduceAdd, Nat.reduceLT, Nat.reduceEqDiff, QlP, Qmb, QK, QL, QJ, aBin, aLen, QlF, QlS, QlW, QW, Q1, Xf, goInt, Ql9, Qma, Qmg, Qmf, T.Qk4, T.Qk6, QE, ei44, un44, ti69, t0, t3, t4, z9, z0, hg, QE, hsa3]) | (with_reducible (first | refine Qi fun K hK => ?_ | refine Qm ?_ | refine Qv ?_ | refine Qf ?_ | refine Qw ?_)) | ((with_reducible refine hK _ ?_); clear hK) | (refine Qj rfl ?_; simp only [↓reduceIte, QlH]))
        refine XD.mk (m' := l.length - (k + 1)) (by omega) ?_
        rw [hI]
        refine ⟨k + 1, rfl, hlt, t0, ?_, ?_, rfl⟩
        · simp only [upd, ↓reduceIte, Nat.reduceEqDiff]
          rw [hj']
        · simp only [upd, ↓reduceIte]
          rw [Xe (by omega)]
      · have z0 : (k : Int) > 0 := by omega
        have hj' : XV true (txts (l.take (k + 1))) = (J ++ ({ data := #[44, 32] } : ByteArray)) ++ (l[k]).txt := by
          have hne : (txts (l.take k)).isEmpty = false := by
            cases hh : txts (l.take k) with
            | nil => have := congrArg List.length hh; rw [QaJ, List.length_take] at this; simp only [QlR] at this; omega
            | cons => rfl
          rw [hj, hne, ByteArray.append_assoc]; rfl
        repeat (first | ((first | (with_reducible (first | refine Qa fun K E hK hE => ?_ | refine Qo fun K E hK hE => ?_ | refine Qs c ?_))); simp -implicitDefEqProofs only [Qd, Qb, Qg, OpW, QR, aop, AS.ev, Qc, Qq, QF, Qk, ↓reduceIte, QlQ, QlR, Nat.reduceAdd, Nat.reduceLT, Nat.reduceEqDiff, QlP, Qmb, QK, QL, QJ, aBin, aLen, QlF, QlS, QlW, QW, Q1, Xf, goInt, Ql9, Qmg, Qmf, T.Qk4, T.Qk6, QE, ei44, un44, ti69, t0, t3, t4, z9, z0, hg, QE, hsa1, hsa2]) | (with_reducible (first | refine Qi fun K hK => ?_ | refine Qm ?_ | refine Qv ?_ | refine Qf ?_ | refine Qw ?_)) | ((with_reducible refine hK _ ?_); clear hK) | (refine Qj rfl ?_; simp only [↓reduceIte]))
        refine XD.mk (m' := l.length - (k + 1)) (by omega) ?_
        rw [hI]
        refine ⟨k + 1, rfl, hlt, t0, ?_, ?_, rfl⟩
        · simp only [upd, ↓reduceIte, Nat.reduceEqDiff]
          rw [hj']
        · simp only [upd, ↓reduceIte]
          rw [Xe (by omega)]
    · have z9 : ¬ (k : Int) < l.length := by omega
      have hkl : k = l.length := by omega
      rw [hkl, List.take_length] at t3
      repeat (first | (((with_reducible refine Qa fun K E hK hE => ?_)); simp -implicitDefEqProofs only [Qd, Qb, Qg, OpW, aop, AS.ev, Qc, Qk, ↓reduceIte, Nat.reduceLT, Nat.reduceEqDiff, aBin, aLen, QlF, QW, goInt, Qma, QE, un44, t0, t3, t4, z9, QE]) | (with_reducible (first | refine Qi fun K hK => ?_ | refine Qn ?_ | refine Q2 ?_ | refine Qf ?_ | refine QU ?_ | refine QV ?_)) | ((with_reducible refine hK _ ?_); clear hK) | (clear hK; (with_reducible refine hK _ ?_); clear hK) | (refine Qj rfl ?_; simp only [↓reduceIte, QlH]))
      simp only [QN, Qp, Qu, upd, ↓reduceIte, QlJ, QlN]
      exact Qe (Qcf _) (.keep (.v _)) ⟨rfl, rfl⟩
  · rw [hI]
    exact ⟨0, by omega, Nat.zero_le _, rfl, rfl, rfl, rfl⟩
theorem QcL (n : Nat) (ih : WrP n) (hb : n ≤ 1000000) (nm : ByteArray) (hnm : nm.size ≤ 1000) (l : List T) (hn : ndsL l ≤ n) (hf : YT l = true) (ho : oks l) :
    Pure Tryz.prog 129 [.v (.string nm), .sl 4 (avs l) none] (.v (.string (funT nm (txts l)))) := by
  intro h
  have hll := XK l
  have hsl := Qbe l
  have c := QfB n ih hb l hn hf ho
  have hs1 := Qgz hf
  have h1 : ({ data := #[40] } : ByteArray).size = 1 := rfl
  have h2 : ({ data := #[41] } : ByteArray).size = 1 := rfl
  rw [funT, QaJ]
  by_cases q : l = []
  · subst q
    have z : ((0 : Int) == 0) = true := rfl
    refine Qh Tryz.func129 rfl Tryz.call129 Tryz.ntmps129 (congrArg Array.toList Tryz.results129) (by simp) ?_
    repeat (first | (((with_reducible refine Qa fun K E hK hE => ?_)); simp -implicitDefEqProofs only [Qd, Qb, Qg, OpW, aop, undef, AS.ev, Qc, Qq, QF, Qk, QD, QlK, Ql3, ↓reduceIte, QlR, Nat.reduceLT, Nat.reduceEqDiff, aBin, aLen, QlF, QS, goInt, QlL, Qmp, un44, Qcw]) | (with_reducible (first | refine Qi fun K hK => ?_ | refine Qn ?_ | refine QB ?_)) | ((with_reducible refine hK _ ?_); clear hK) | (refine Qj rfl ?_; simp only [↓reduceIte]))
    simp only [QN, Qp, Qu, upd, ↓reduceIte, QlJ, QlN]; first | refine Qe (htake _ _) (.keep (.v _)) ⟨by rw [encB, if_neg (by simp)]; simp only [txts, XV]; rw [show nm ++ ByteArray.empty = nm from ByteArray.append_empty], rfl⟩ | refine Qe List.take_length (.keep (.v _)) ⟨by rw [encB, if_neg (by simp)]; simp only [txts, XV]; rw [show nm ++ ByteArray.empty = nm from ByteArray.append_empty], rfl⟩
  · have hl0 : 0 < l.length := List.length_pos_iff.2 q
    have z : ((l.length : Int) == 0) = false := by rw [beq_eq_false_iff_ne]; omega
    obtain ⟨J, eJ⟩ : ∃ J, J = XV true (txts l) := ⟨_, rfl⟩
    rw [← eJ] at c hs1 ⊢
    have hsa1 := fun xo yo => Xl Tryz.prog 9 xo yo nm ({ data := #[40] } : ByteArray) (by omega)
    have hsa2 := fun xo yo => Xl Tryz.prog 9 xo yo (nm ++ ({ data := #[40] } : ByteArray)) J (by rw [Qt]; omega)
    have hsa3 := fun xo yo => Xl Tryz.prog 9 xo yo (nm ++ ({ data := #[40] } : ByteArray) ++ J) ({ data := #[41] } : ByteArray) (by rw [Qt, Qt]; omega)
    refine Qh Tryz.func129 rfl Tryz.call129 Tryz.ntmps129 (congrArg Array.toList Tryz.results129) (by simp) ?_
    repeat (first | ((first | (with_reducible (first | refine Qa fun K E hK hE => ?_ | refine Qs c ?_))); simp -implicitDefEqProofs only [Qd, Qb, Qg, OpW, QR, aop, undef, AS.ev, Qc, Qq, QF, Qk, QD, QlK, Ql3, ↓reduceIte, Nat.reduceLT, Nat.reduceEqDiff, aBin, aLen, QlF, QlS, QlW, QS, goInt, QE, un44, QE, z, hsa1, hsa2, hsa3]) | (with_reducible (first | refine Qi fun K hK => ?_ | refine Qn ?_ | refine Qv ?_ | refine Qf ?_)) | ((with_reducible refine hK _ ?_); clear hK) | (refine Qj rfl ?_; simp only [↓reduceIte, QlH]))
    simp only [QN, Qp, Qu, upd, ↓reduceIte, QlJ, QlN]; first | refine Qe (htake _ _) (.keep (.v _)) ⟨by rw [decide_eq_true hl0, encB, if_pos rfl]; simp only [ByteArray.append_assoc], rfl⟩ | refine Qe List.take_length (.keep (.v _)) ⟨by rw [decide_eq_true hl0, encB, if_pos rfl]; simp only [ByteArray.append_assoc], rfl⟩
theorem Qb2 (n : Nat) : n ≤ 1000000 → WrP n := by
  induction n with
  | zero => intro _ t hn _ _; have := T.Qlc t; omega
  | succ n ih0 =>
    intro hb t hn hf ho h
    have ih : WrP n := ih0 (by omega)
    obtain ⟨o1, o2, o3, o4⟩ := (T.ok_eq t).1 ho
    have hnd := T.Qlc t
    have hlx := (T.Qlb hf).1
    have ett : ∀ (e : t.oper = 0), t.txt = if t.kind = 0 then decZ t.int else if t.kind = 1 then vOf (decN t.int.toNat) else funT t.name (txts t.args) := fun e => by
      cases t with | mk k i nm l => rw [T.txt, if_neg (by rw [e]; simp)]; rfl
    by_cases k0 : t.kind = 0
    · have z0 : (t.kind == 0) = true := by simp [k0]
      have e0 : t.oper = 0 := by rw [T.oper, if_pos (.inl (by omega))]
      have hi : -9223372036854775807 ≤ t.int ∧ t.int ≤ 9223372036854775807 := by cases t with | mk k i nm l => exact hlx.1 k0
      have c := Qhr t.int hi.1 hi.2
      rw [ett e0, if_pos k0]
      refine Qh Tryz.func131 rfl Tryz.call131 Tryz.ntmps131 (congrArg Array.toList Tryz.results131) (by simp) ?_
      repeat (first | ((first | (with_reducible (first | refine Qa fun K E hK hE => ?_ | refine Qs c ?_))); simp -implicitDefEqProofs only [Qd, Qb, Qg, OpW, QR, aop, undef, AS.ev, Qc, Qq, QF, Qk, QD, QlK, AV.Qk5, QlX, QlY, QC, QA, QI, QlZ, ↓reduceIte, QlQ, QlR, Nat.reduceAdd, Nat.reduceLT, Nat.reduceEqDiff, QlP, Ql2, Ql, QK, QL, aBin, QO, QlD, QlE, QlF, QlS, QlW, QS, T.Qk4, ti3, Xu, XS, T.Qk4, z0]) | (with_reducible (first | refine Qi fun K hK => ?_ | refine Qm ?_ | refine Qn ?_ | refine QB ?_ | refine QH ?_)) | ((with_reducible refine hK _ ?_); clear hK) | (refine Qj rfl ?_; simp only [↓reduceIte]))
      simp only [QN, Qp, Qu, upd, ↓reduceIte, QlJ, QlN]; first | refine Qe (htake _ _) (.keep (.v _)) ⟨rfl, rfl⟩ | refine Qe List.take_length (.keep (.v _)) ⟨rfl, rfl⟩
    have z0 : (t.kind == 0) = false := by simp [k0]
    by_cases k1 : t.kind = 1
    · have z1 : (t.kind == 1) = true := by simp [k1]
      have e0 : t.oper = 0 := by rw [T.oper, if_pos (.inl (by omega))]
      have hi : 0 ≤ t.int ∧ t.int ≤ 1048576 := by cases t with | mk k i nm l => exact hlx.2.1 k1
      have c := QeO t.int.toNat (by omega)
      rw [show ((t.int.toNat : Nat) : Int) = t.int by omega] at c
      rw [ett e0, if_neg k0, if_pos k1]
      refine Qh Tryz.func131 rfl Tryz.call131 Tryz.ntmps131 (congrArg Array.toList Tryz.results131) (by simp) ?_
      repeat (first | ((first | (with_reducible (first | refine Qa fun K E hK hE => ?_ | refine Qs c ?_))); simp -implicitDefEqProofs only [Qd, Qb, Qg, OpW, QR, aop, undef, AS.ev, Qc, Qq, QF, Qk, QD, QlK, AV.Qk5, QlX, QlY, QC, QA, QI, QlZ, ↓reduceIte, QlQ, QlR, Nat.reduceAdd, Nat.reduceLT, Nat.reduceEqDiff, QlP, Ql2, Ql, QK, QL, aBin, QO, QlD, QlE, QlF, QlS, QlW, QS, T.Qk4, ti3, Xu, XS, T.Qk4, z0, z1]) | (with_reducible (first | refine Qi fun K hK => ?_ | refine Qm ?_ | refine Qn ?_ | refine QB ?_ | refine QH ?_)) | ((with_reducible refine hK _ ?_); clear hK) | (refine Qj rfl ?_; simp only [↓reduceIte, QlH]))
      simp only [QN, Qp, Qu, upd, ↓reduceIte, QlJ, QlN]; first | refine Qe (htake _ _) (.keep (.v _)) ⟨rfl, rfl⟩ | refine Qe List.take_length (.keep (.v _)) ⟨rfl, rfl⟩
    have z1 : (t.kind == 1) = false := by simp [k1]
    have k2 : t.kind = 2 := by
      apply Classical.byContradiction
      intro k2
      rw [T.Qk8, if_neg k0, if_neg k1, if_neg k2] at hf
      cases hf
    obtain ⟨_, hl6, hnm, hfs⟩ := T.Qlk hf k2
    have cs := Qb0 t
    have es := T.Qlg hf
    have hns : t.name.size ≤ 1000 := by
      rcases hnm with h | h
      · have := Y1 h; omega
      · by_cases hs1 : t.name.size = 1
        · omega
        · rw [Qc5 hs1] at h; exact absurd h.1 (by simp)
    by_cases e0 : t.oper = 0
    · rw [if_pos e0] at es
      rw [es] at cs
      have z3 : ¬ (3 : Int) < 3 := by decide
      have c := QcL n ih (by omega) t.name hns t.args (by omega) hfs o4
      rw [ett e0, if_neg k0, if_neg k1]
      refine Qh Tryz.func131 rfl Tryz.call131 Tryz.ntmps131 (congrArg Array.toList Tryz.results131) (by simp) ?_
      repeat (first | ((first | (with_reducible (first | refine Qa fun K E hK hE => ?_ | refine Qs c ?_ | refine Qs cs ?_))); simp -implicitDefEqProofs only [Qd, Qb, Qg, OpW, QR, aop, undef, AS.ev, Qc, Qq, QF, Qk, QD, QlK, AV.Qk5, QlX, QlY, QC, QA, QI, QlZ, ↓reduceIte, QlQ, QlR, Nat.reduceAdd, Nat.reduceLT, Nat.reduceEqDiff, QlP, Ql2, Qmb, Ql, QK, QL, aBin, QO, QlD, QlE, QlF, QlS, QlW, QS, QW, Qma, T.Qk4, T.Qk6, ti3, ti9, ti44, ti69, Xu, XM, XN, T.Qk6, T.Qk4, z0, z1, z3]) | (with_reducible (first | refine Qi fun K hK => ?_ | refine Qm ?_ | refine Qn ?_ | refine Qv ?_ | refine Qf ?_ | refine Qw ?_)) | ((with_reducible refine hK _ ?_); clear hK) | (refine Qj rfl ?_; simp only [↓reduceIte, QlH]))
      simp only [QN, Qp, Qu, upd, ↓reduceIte, QlJ, QlN]; first | refine Qe (htake _ _) (.keep (.v _)) ⟨rfl, rfl⟩ | refine Qe List.take_length (.keep (.v _)) ⟨rfl, rfl⟩
    rw [if_neg e0] at es
    have hl2 : t.args.length = 2 := by
      apply Classical.byContradiction
      intro hc
      exact e0 (by rw [T.oper, if_pos (.inr hc)])
    obtain ⟨x, y, hxy⟩ : ∃ x y, t.args = [x, y] := by
      match hh : t.args, hl2 with
      | [x, y], _ => exact ⟨x, y, rfl⟩
    have er : t.oper = ofB t.name := by rw [T.oper, if_neg (by omega)]
    have ho12 := T.Qlh t
    have hz : t.oper < 3 := by omega
    rw [es] at cs
    rw [hxy] at hfs o4
    have hfx : x.Qk7 = true := ZZ hfs x (by simp)
    have hfy : y.Qk7 = true := ZZ hfs y (by simp)
    have hox : x.ok := o4.1
    have hoy : y.ok := o4.2.1
    have hnx : x.nds ≤ n ∧ y.nds ≤ n := by rw [hxy] at hnd; simp only [ndsL] at hnd; omega
    have c1 := Qa1 n ih (by omega) x hnx.1 hfx hox t.oper 0 (by omega) (by omega)
    have c2 := Qa1 n ih (by omega) y hnx.2 hfy hoy t.oper 1 (by omega) (by omega)
    have ex : decide (x.strI < t.oper + 0) = ((x.oper == 1) && (ofB t.name == 2)) := by
      rw [T.Qlg hfx, ← er]
      have := T.Qlh x
      rw [Bool.eq_iff_iff, decide_eq_true_eq, Bool.and_eq_true, beq_iff_eq, beq_iff_eq]
      split <;> omega
    have ey : decide (y.strI < t.oper + 1) = ((y.oper != 0) && ((y.oper == 1) || (ofB t.name == 2))) := by
      rw [T.Qlg hfy, ← er]
      have := T.Qlh y
      rw [Bool.eq_iff_iff, decide_eq_true_eq, Bool.and_eq_true, Bool.or_eq_true, beq_iff_eq, beq_iff_eq, bne_iff_ne]
      split <;> omega
    rw [ex] at c1
    rw [ey] at c2
    have ett2 : t.txt = binT (ofB t.name) t.name x.oper y.oper x.txt y.txt := by
      cases t with | mk k i nm l =>
      simp only [T.args] at hxy
      subst hxy
      rw [T.txt, if_pos e0]; rfl
    obtain ⟨X, eX⟩ : ∃ X, X = encB ((x.oper == 1) && (ofB t.name == 2)) x.txt := ⟨_, rfl⟩
    obtain ⟨Y, eY⟩ : ∃ Y, Y = encB ((y.oper != 0) && ((y.oper == 1) || (ofB t.name == 2))) y.txt := ⟨_, rfl⟩
    have sx : X.size ≤ 60000002 := by
      have := Qcr ((x.oper == 1) && (ofB t.name == 2)) x.txt
      have := (T.Qlb hfx).2.1
      have := T.Qla x
      rw [eX]; omega
    have sy : Y.size ≤ 60000002 := by
      have := Qcr ((y.oper != 0) && ((y.oper == 1) || (ofB t.name == 2))) y.txt
      have := (T.Qlb hfy).2.1
      have := T.Qla y
      rw [eY]; omega
    rw [← eX] at c1
    rw [← eY] at c2
    have h1 : ({ data := #[32] } : ByteArray).size = 1 := rfl
    have hsa1 := fun xo yo => Xl Tryz.prog 9 xo yo X ({ data := #[32] } : ByteArray) (by omega)
    have hsa2 := fun xo yo => Xl Tryz.prog 9 xo yo (X ++ ({ data := #[32] } : ByteArray)) t.name (by rw [Qt]; omega)
    have hsa3 := fun xo yo => Xl Tryz.prog 9 xo yo (X ++ ({ data := #[32] } : ByteArray) ++ t.name) ({ data := #[32] } : ByteArray) (by rw [Qt, Qt]; omega)
    have hsa4 := fun xo yo => Xl Tryz.prog 9 xo yo (X ++ ({ data := #[32] } : ByteArray) ++ t.name ++ ({ data := #[32] } : ByteArray)) Y (by rw [Qt, Qt, Qt]; omega)
    have hav : avs t.args = [x.av, y.av] := by rw [hxy]; rfl
    have n02 : (0 : Int) < ((2 : Nat) : Int) := by decide
    have n01 : (0 : Int) ≤ 1 := by decide
    have n12 : (1 : Int) < ((2 : Nat) : Int) := by decide
    refine Qh Tryz.func131 rfl Tryz.call131 Tryz.ntmps131 (congrArg Array.toList Tryz.results131) (by simp) ?_
    repeat (first | ((first | (with_reducible (first | refine Qa fun K E hK hE => ?_ | refine Qs cs ?_ | refine QQ cs ?_ | refine QQ c1 ?_ | refine QQ c2 ?_)) | (refine QX (id := 6) [(0, 0), (1, 0), (2, 0), (3, 0), (4, 0), (5, 1), (6, 1), (7, 0), (8, 0), (9, 0), (10, 0), (11, 0), (12, 0), (13, 0), (14, 0), (15, 0), (16, 0), (17, 1), (18, 1), (19, 0), (20, 0)] mixed (by kernel_rfl) fun K hK => ?_)); simp -implicitDefEqProofs only [Xk, Xd, Xw, Qd, Qb, Qg, OpW, QR, aop, undef, AS.ev, Qc, Qq, QF, Qk, QD, QlK, AV.Qk5, QlX, QlY, QC, QA, QI, QlZ, ↓reduceIte, QlQ, QlR, Nat.reduceAdd, Nat.reduceLT, Nat.reduceLeDiff, Nat.reduceEqDiff, QlP, Ql2, Qmb, Ql, QK, QL, QJ, aBin, QO, QlD, QlE, QlF, QlG, QlS, QlW, QS, QW, Ql9, Int.toNat_zero, Int.toNat_one, T.Qk4, T.Qk6, ti3, ti9, ti44, ei44, ti69, Xu, XM, XN, Qmq, T.Qk6, T.Qk4, z0, z1, hz, n02, n12, n01, hav, hsa1, hsa2, hsa3, hsa4]) | (with_reducible (first | refine Qi fun K hK => ?_ | refine Qm ?_ | refine Qn ?_ | refine QB ?_ | refine QH ?_)) | ((with_reducible refine hK _ ?_); clear hK) | (refine Qj rfl ?_; simp only [↓reduceIte, QlH]))
    simp only [QN, Qp, Qu, upd, ↓reduceIte, QlJ, QlN]; first | refine Qe (htake _ _) (.keep (.v _)) ⟨by rw [ett2, binT, ← eX, ← eY]; simp only [ByteArray.append_assoc], rfl⟩ | refine Qe List.take_length (.keep (.v _)) ⟨by rw [ett2, binT, ← eX, ← eY]; simp only [ByteArray.append_assoc], rfl⟩
theorem Qey (t : T) (hn : t.nds ≤ 1000000) (hf : t.Qk7 = true) (ho : t.ok) : Pure Tryz.prog 131 [t.av] (.v (.string t.txt)) := Qb2 1000000 (Nat.le_refl _) t hn hf ho
theorem Qci (nm : ByteArray) (hnm : nm.size ≤ 1000) (l : List T) (hn : ndsL l ≤ 1000000) (hf : YT l = true) (ho : oks l) :
    Pure Tryz.prog 129 [.v (.string nm), .sl 4 (avs l) none] (.v (.string (funT nm (txts l)))) := QcL 1000000 (Qb2 1000000 (Nat.le_refl _)) (Nat.le_refl _) nm hnm l hn hf ho
end Go.Proofs.YtenheconhibonaaGreatDoor.Ab
set_option maxRecDepth 4000
namespace Go.Proofs.YtenheconhibonaaGreatDoor.Ab
open Go.Proofs
theorem QfH {l : List T} (h : (runL l 200 20).1 = true) : YT l = true := by
  rw [(QaY l 200 20 (by omega) (by omega)).1, Bool.and_eq_true] at h; exact h.1
theorem QaU {g : G} (h : Q8 g = true) : g.name.size ≤ 1000 ∧ YT g.args = true := by
  simp only [Q8, Bool.and_eq_true] at h
  have := Y1 h.1
  exact ⟨by omega, QfH h.2.2⟩
theorem QcW (g : G) (hn : ndsL g.args ≤ 1000000) (ho : g.ok) : Pure Tryz.prog 89 [g.atom] (.v (.string (txtA g))) := by
  intro h
  have c1 := ZE g hn ho
  cases hr : Q8 g with
  | false =>
    rw [hr] at c1
    rw [txtA, hr, if_neg (by simp)]
    refine Qh Tryz.func89 rfl Tryz.call89 Tryz.ntmps89 (congrArg Array.toList Tryz.results89) (by simp) ?_
    repeat (first | ((first | (with_reducible (first | refine Qa fun K E hK hE => ?_ | refine Qs c1 ?_))); simp -implicitDefEqProofs only [Qd, Qb, Qg, OpW, QR, aop, undef, AS.ev, Qc, QF, Qk, QD, QlK, AV.Qk5, QlX, QlY, QA, QI, QlZ, Ql1, ↓reduceIte, QlQ, QlR, Nat.reduceAdd, Nat.reduceLT, Nat.reduceEqDiff, QlP, Qmb, QK, QL, QO, QlD, QlF, QlS, QlW, Xb, ti66, XB, Y7]) | (with_reducible (first | refine Qi fun K hK => ?_ | refine Qn ?_ | refine QB ?_)) | ((with_reducible refine hK _ ?_); clear hK) | (refine Qj rfl ?_; simp only [↓reduceIte]))
    simp only [QN, Qp, Qu, upd, ↓reduceIte, QlJ, QlN]; first | refine Qe (htake _ _) (.keep (.v _)) ⟨rfl, rfl⟩ | refine Qe List.take_length (.keep (.v _)) ⟨rfl, rfl⟩
  | true =>
    rw [hr] at c1
    obtain ⟨hs, hf⟩ := QaU hr
    have c2 := Qci g.name hs g.args hn hf ho.2.2
    rw [txtA, hr, if_pos rfl]
    refine Qh Tryz.func89 rfl Tryz.call89 Tryz.ntmps89 (congrArg Array.toList Tryz.results89) (by simp) ?_
    repeat (first | ((first | (with_reducible (first | refine Qa fun K E hK hE => ?_ | refine Qs c1 ?_ | refine Qs c2 ?_))); simp -implicitDefEqProofs only [Qd, Qb, Qg, OpW, QR, aop, undef, AS.ev, Qc, QF, Qk, QD, QlK, AV.Qk5, QlX, QlY, QA, QI, QlZ, Ql0, ↓reduceIte, QlQ, QlR, Nat.reduceAdd, Nat.reduceLT, Nat.reduceEqDiff, QlP, Ql2, Qmb, Ql, QK, QL, QO, QlD, QlE, QlF, QlS, QlW, Xb, ti9, ti44, ti66, YQ, YM, XB, Y7]) | (with_reducible (first | refine Qi fun K hK => ?_ | refine Qn ?_ | refine Qv ?_ | refine Qf ?_)) | ((with_reducible refine hK _ ?_); clear hK) | (refine Qj rfl ?_; simp only [↓reduceIte, QlH]))
    simp only [QN, Qp, Qu, upd, ↓reduceIte, QlJ, QlN]; first | refine Qe (htake _ _) (.keep (.v _)) ⟨rfl, rfl⟩ | refine Qe List.take_length (.keep (.v _)) ⟨rfl, rfl⟩
theorem Qg9 (op : Int) (h1 : 3 ≤ op) (h2 : op ≤ 10) : Pure Tryz.prog 132 [.i op] (.v (.string (Qc2 op))) := by
  intro h
  have : op = 3 ∨ op = 4 ∨ op = 5 ∨ op = 6 ∨ op = 7 ∨ op = 8 ∨ op = 9 ∨ op = 10 := by omega
  rcases this with rfl | rfl | rfl | rfl | rfl | rfl | rfl | rfl
  · have hw : IntKind.i64.wrap ((3 : Int) - 3) = ((0 : Nat) : Int) := by decide
    have n08 : (0 : Int) < ((8 : Nat) : Int) := by decide
    refine Qh Tryz.func132 rfl Tryz.call132 Tryz.ntmps132 (congrArg Array.toList Tryz.results132) (by simp) ?_
    repeat (first | (((with_reducible refine Qa fun K E hK hE => ?_)); simp -implicitDefEqProofs only [Qd, Qb, Qg, OpW, aop, undef, AS.ev, Qc, Qq, QF, Qk, QD, QlK, AV.Qk5, Q6, QlX, QlY, QA, QlZ, ↓reduceIte, QlQ, QlR, Nat.reduceAdd, Nat.reduceLT, Nat.reduceLeDiff, Nat.reduceEqDiff, Nat.reduceMul, QlP, Qmb, QK, QL, QJ, aBin, Q7, QlD, QlF, QlS, QlW, YA, QlL, Int.toNat_zero, Qmp, rng8, Xa, Nat.reducePow, ti9, zi9, ei48, Qmq, hw, n08]) | (with_reducible refine Qn ?_) | ((with_reducible refine hK _ ?_); clear hK))
    simp only [QN, Qp, Qu, upd, ↓reduceIte, QlJ, QlN]; first | refine Qe (htake _ _) (.keep (.v _)) ⟨rfl, rfl⟩ | refine Qe List.take_length (.keep (.v _)) ⟨rfl, rfl⟩
  · have hw : IntKind.i64.wrap ((4 : Int) - 3) = ((1 : Nat) : Int) := by decide
    have n08 : (0 : Int) < ((8 : Nat) : Int) := by decide
    refine Qh Tryz.func132 rfl Tryz.call132 Tryz.ntmps132 (congrArg Array.toList Tryz.results132) (by simp) ?_
    repeat (first | (((with_reducible refine Qa fun K E hK hE => ?_)); simp -implicitDefEqProofs only [Qd, Qb, Qg, OpW, aop, undef, AS.ev, Qc, Qq, QF, Qk, QD, QlK, AV.Qk5, Q6, QlX, QlY, QA, QlZ, ↓reduceIte, QlQ, QlR, Nat.reduceAdd, Nat.reduceLT, Nat.reduceLeDiff, Nat.reduceEqDiff, Nat.reduceMul, QlP, Qmb, QK, QL, QJ, aBin, Q7, QlD, QlE, QlF, QlS, QlW, YA, QlL, Qmg, Qmf, Qmr, rng8, Xa, Nat.reducePow, ti9, zi9, ei48, hw]) | (with_reducible refine Qn ?_) | ((with_reducible refine hK _ ?_); clear hK))
    simp only [QN, Qp, Qu, upd, ↓reduceIte, QlJ, QlN]; first | refine Qe (htake _ _) (.keep (.v _)) ⟨rfl, rfl⟩ | refine Qe List.take_length (.keep (.v _)) ⟨rfl, rfl⟩
  · have hw : IntKind.i64.wrap ((5 : Int) - 3) = ((2 : Nat) : Int) := by decide
    have n08 : (0 : Int) < ((8 : Nat) : Int) := by decide
    refine Qh Tryz.func132 rfl Tryz.call132 Tryz.ntmps132 (congrArg Array.toList Tryz.results132) (by simp) ?_
    repeat (first | (((with_reducible refine Qa fun K E hK hE => ?_)); simp -implicitDefEqProofs only [Qd, Qb, Qg, OpW, aop, undef, AS.ev, Qc, Qq, QF, Qk, QD, QlK, AV.Qk5, Q6, QlX, QlY, QA, QlZ, ↓reduceIte, QlQ, QlR, Nat.reduceAdd, Nat.reduceLT, Nat.reduceLeDiff, Nat.reduceEqDiff, Nat.reduceMul, QlP, Qmb, QK, QL, QJ, aBin, Q7, QlD, QlE, QlF, QlS, QlW, YA, QlL, Qmg, Qmf, Qmr, rng8, Xa, Nat.reducePow, ti9, zi9, ei48, hw]) | (with_reducible refine Qn ?_) | ((with_reducible refine hK _ ?_); clear hK))
    simp only [QN, Qp, Qu, upd, ↓reduceIte, QlJ, QlN]; first | refine Qe (htake _ _) (.keep (.v _)) ⟨rfl, rfl⟩ | refine Qe List.take_length (.keep (.v _)) ⟨rfl, rfl⟩
  · have hw : IntKind.i64.wrap ((6 : Int) - 3) = ((3 : Nat) : Int) := by decide
    have n08 : (0 : Int) < ((8 : Nat) : Int) := by decide
    refine Qh Tryz.func132 rfl Tryz.call132 Tryz.ntmps132 (congrArg Array.toList Tryz.results132) (by simp) ?_
    repeat (first | (((with_reducible refine Qa fun K E hK hE => ?_)); simp -implicitDefEqProofs only [Qd, Qb, Qg, OpW, aop, undef, AS.ev, Qc, Qq, QF, Qk, QD, QlK, AV.Qk5, Q6, QlX, QlY, QA, QlZ, ↓reduceIte, QlQ, QlR, Nat.reduceAdd, Nat.reduceLT, Nat.reduceLeDiff, Nat.reduceEqDiff, Nat.reduceMul, QlP, Qmb, QK, QL, QJ, aBin, Q7, QlD, QlE, QlF, QlS, QlW, YA, QlL, Qmg, Qmf, Qmr, rng8, Xa, Nat.reducePow, ti9, zi9, ei48, hw]) | (with_reducible refine Qn ?_) | ((with_reducible refine hK _ ?_); clear hK))
    simp only [QN, Qp, Qu, upd, ↓reduceIte, QlJ, QlN]; first | refine Qe (htake _ _) (.keep (.v _)) ⟨rfl, rfl⟩ | refine Qe List.take_length (.keep (.v _)) ⟨rfl, rfl⟩
  · have hw : IntKind.i64.wrap ((7 : Int) - 3) = ((4 : Nat) : Int) := by decide
    have n08 : (0 : Int) < ((8 : Nat) : Int) := by decide
    refine Qh Tryz.func132 rfl Tryz.call132 Tryz.ntmps132 (congrArg Array.toList Tryz.results132) (by simp) ?_
    repeat (first | (((with_reducible refine Qa fun K E hK hE => ?_)); simp -implicitDefEqProofs only [Qd, Qb, Qg, OpW, aop, undef, AS.ev, Qc, Qq, QF, Qk, QD, QlK, AV.Qk5, Q6, QlX, QlY, QA, QlZ, ↓reduceIte, QlQ, QlR, Nat.reduceAdd, Nat.reduceLT, Nat.reduceLeDiff, Nat.reduceEqDiff, Nat.reduceMul, QlP, Qmb, QK, QL, QJ, aBin, Q7, QlD, QlE, QlF, QlS, QlW, YA, QlL, Qmg, Qmf, Qmr, rng8, Xa, Nat.reducePow, ti9, zi9, ei48, hw]) | (with_reducible refine Qn ?_) | ((with_reducible refine hK _ ?_); clear hK))
    simp only [QN, Qp, Qu, upd, ↓reduceIte, QlJ, QlN]; first | refine Qe (htake _ _) (.keep (.v _)) ⟨rfl, rfl⟩ | refine Qe List.take_length (.keep (.v _)) ⟨rfl, rfl⟩
  · have hw : IntKind.i64.wrap ((8 : Int) - 3) = ((5 : Nat) : Int) := by decide
    have n08 : (0 : Int) < ((8 : Nat) : Int) := by decide
    refine Qh Tryz.func132 rfl Tryz.call132 Tryz.ntmps132 (congrArg Array.toList Tryz.results132) (by simp) ?_
    repeat (first | (((with_reducible refine Qa fun K E hK hE => ?_)); simp -implicitDefEqProofs only [Qd, Qb, Qg, OpW, aop, undef, AS.ev, Qc, Qq, QF, Qk, QD, QlK, AV.Qk5, Q6, QlX, QlY, QA, QlZ, ↓reduceIte, QlQ, QlR, Nat.reduceAdd, Nat.reduceLT, Nat.reduceLeDiff, Nat.reduceEqDiff, Nat.reduceMul, QlP, Qmb, QK, QL, QJ, aBin, Q7, QlD, QlE, QlF, QlS, QlW, YA, QlL, Qmg, Qmf, Qmr, rng8, Xa, Nat.reducePow, ti9, zi9, ei48, hw]) | (with_reducible refine Qn ?_) | ((with_reducible refine hK _ ?_); clear hK))
    simp only [QN, Qp, Qu, upd, ↓reduceIte, QlJ, QlN]; first | refine Qe (htake _ _) (.keep (.v _)) ⟨rfl, rfl⟩ | refine Qe List.take_length (.keep (.v _)) ⟨rfl, rfl⟩
  · have hw : IntKind.i64.wrap ((9 : Int) - 3) = ((6 : Nat) : Int) := by decide
    have n08 : (0 : Int) < ((8 : Nat) : Int) := by decide
    refine Qh Tryz.func132 rfl Tryz.call132 Tryz.ntmps132 (congrArg Array.toList Tryz.results132) (by simp) ?_
    repeat (first | (((with_reducible refine Qa fun K E hK hE => ?_)); simp -implicitDefEqProofs only [Qd, Qb, Qg, OpW, aop, undef, AS.ev, Qc, Qq, QF, Qk, QD, QlK, AV.Qk5, Q6, QlX, QlY, QA, QlZ, ↓reduceIte, QlQ, QlR, Nat.reduceAdd, Nat.reduceLT, Nat.reduceLeDiff, Nat.reduceEqDiff, Nat.reduceMul, QlP, Qmb, QK, QL, QJ, aBin, Q7, QlD, QlE, QlF, QlS, QlW, YA, QlL, Qmg, Qmf, Qmr, rng8, Xa, Nat.reducePow, ti9, zi9, ei48, hw]) | (with_reducible refine Qn ?_) | ((with_reducible refine hK _ ?_); clear hK))
    simp only [QN, Qp, Qu, upd, ↓reduceIte, QlJ, QlN]; first | refine Qe (htake _ _) (.keep (.v _)) ⟨rfl, rfl⟩ | refine Qe List.take_length (.keep (.v _)) ⟨rfl, rfl⟩
  · have hw : IntKind.i64.wrap ((10 : Int) - 3) = ((7 : Nat) : Int) := by decide
    have n08 : (0 : Int) < ((8 : Nat) : Int) := by decide
    refine Qh Tryz.func132 rfl Tryz.call132 Tryz.ntmps132 (congrArg Array.toList Tryz.results132) (by simp) ?_
    repeat (first | (((with_reducible refine Qa fun K E hK hE => ?_)); simp -implicitDefEqProofs only [Qd, Qb, Qg, OpW, aop, undef, AS.ev, Qc, Qq, QF, Qk, QD, QlK, AV.Qk5, Q6, QlX, QlY, QA, QlZ, ↓reduceIte, QlQ, QlR, Nat.reduceAdd, Nat.reduceLT, Nat.reduceLeDiff, Nat.reduceEqDiff, Nat.reduceMul, QlP, Qmb, QK, QL, QJ, aBin, Q7, QlD, QlE, QlF, QlS, QlW, YA, QlL, Qmg, Qmf, Qmr, rng8, Xa, Nat.reducePow, ti9, zi9, ei48, hw]) | (with_reducible refine Qn ?_) | ((with_reducible refine hK _ ?_); clear hK))
    simp only [QN, Qp, Qu, upd, ↓reduceIte, QlJ, QlN]; first | refine Qe (htake _ _) (.keep (.v _)) ⟨rfl, rfl⟩ | refine Qe List.take_length (.keep (.v _)) ⟨rfl, rfl⟩
theorem Qc4 (g : G) (hn : ndsL g.args ≤ 1000000) (ho : g.ok) : Pure Tryz.prog 91 [g.goal] (.v (.string (txtG g))) := by
  intro h
  have c1 := Qau g hn ho
  cases hr : Q4 g with
  | false =>
    rw [hr] at c1
    rw [txtG, hr, if_neg (by simp)]
    refine Qh Tryz.func91 rfl Tryz.call91 Tryz.ntmps91 (congrArg Array.toList Tryz.results91) (by simp) ?_
    repeat (first | ((first | (with_reducible (first | refine Qa fun K E hK hE => ?_ | refine Qs c1 ?_))); simp -implicitDefEqProofs only [Qd, Qb, Qg, OpW, QR, aop, undef, AS.ev, Qc, QF, Qk, QD, QlK, AV.Qk5, QlX, QlY, QC, QA, QI, QlZ, Ql1, ↓reduceIte, QlQ, QlR, Nat.reduceAdd, Nat.reduceLT, Nat.reduceEqDiff, QlP, Qmb, QK, QL, QO, QlD, QlF, QlS, QlW, Xb, ti53, Q3, Yb]) | (with_reducible (first | refine Qi fun K hK => ?_ | refine Qn ?_ | refine QB ?_)) | ((with_reducible refine hK _ ?_); clear hK) | (refine Qj rfl ?_; simp only [↓reduceIte]))
    simp only [QN, Qp, Qu, upd, ↓reduceIte, QlJ, QlN]; first | refine Qe (htake _ _) (.keep (.v _)) ⟨rfl, rfl⟩ | refine Qe List.take_length (.keep (.v _)) ⟨rfl, rfl⟩
  | true =>
    rw [hr] at c1
    rw [txtG, hr, if_pos rfl]
    by_cases k0 : g.op = 0
    · have z0 : (g.op == 0) = true := by simp [k0]
      rw [Q4, if_pos k0] at hr
      obtain ⟨hs, hf⟩ := QaU hr
      have c2 := Qci g.name hs g.args hn hf ho.2.2
      rw [ZO, if_pos k0]
      refine Qh Tryz.func91 rfl Tryz.call91 Tryz.ntmps91 (congrArg Array.toList Tryz.results91) (by simp) ?_
      repeat (first | ((first | (with_reducible (first | refine Qa fun K E hK hE => ?_ | refine Qs c1 ?_ | refine Qs c2 ?_))); simp -implicitDefEqProofs only [Qd, Qb, Qg, OpW, QR, aop, undef, AS.ev, Qc, Qq, QF, Qk, QD, QlK, AV.Qk5, QlX, QlY, QC, QA, QI, QlZ, Ql0, ↓reduceIte, QlQ, QlR, Nat.reduceAdd, Nat.reduceLT, Nat.reduceEqDiff, QlP, Ql2, Qmb, Ql, QK, QL, aBin, QO, QlD, QlE, QlF, QlS, QlW, QS, Xb, ti3, ti9, ti44, ti53, XG, Yy, Ya, Q3, Yb, z0]) | (with_reducible (first | refine Qi fun K hK => ?_ | refine Qm ?_ | refine Qn ?_ | refine Qv ?_ | refine Qf ?_ | refine QB ?_ | refine QH ?_)) | ((with_reducible refine hK _ ?_); clear hK) | (refine Qj rfl ?_; simp only [↓reduceIte, QlH]))
      simp only [QN, Qp, Qu, upd, ↓reduceIte, QlJ, QlN]; first | refine Qe (htake _ _) (.keep (.v _)) ⟨rfl, rfl⟩ | refine Qe List.take_length (.keep (.v _)) ⟨rfl, rfl⟩
    have z0 : (g.op == 0) = false := by simp [k0]
    rw [Q4, if_neg k0] at hr
    simp only [Bool.and_eq_true, decide_eq_true_eq] at hr
    obtain ⟨hop, _, hlen, hrun⟩ := hr
    have hf := QfH hrun
    by_cases k1 : g.op = 1
    · have z1 : (g.op == 1) = true := by simp [k1]
      rw [ZO, if_neg k0, if_pos k1]
      refine Qh Tryz.func91 rfl Tryz.call91 Tryz.ntmps91 (congrArg Array.toList Tryz.results91) (by simp) ?_
      repeat (first | ((first | (with_reducible (first | refine Qa fun K E hK hE => ?_ | refine Qs c1 ?_))); simp -implicitDefEqProofs only [Qd, Qb, Qg, OpW, QR, aop, undef, AS.ev, Qc, Qq, QF, Qk, QD, QlK, AV.Qk5, QlX, QlY, QC, QA, QI, QlZ, Ql0, ↓reduceIte, QlQ, QlR, Nat.reduceAdd, Nat.reduceLT, Nat.reduceEqDiff, QlP, Ql2, Qmb, Ql, QK, QL, aBin, QO, QlD, QlF, QlS, QlW, QS, Xb, ti3, ti53, XG, Q3, Yb, z0, z1]) | (with_reducible (first | refine Qi fun K hK => ?_ | refine Qm ?_ | refine Qn ?_ | refine Qv ?_ | refine Qf ?_ | refine QB ?_ | refine QH ?_)) | ((with_reducible refine hK _ ?_); clear hK) | (refine Qj rfl ?_; simp only [↓reduceIte, QlH]))
      simp only [QN, Qp, Qu, upd, ↓reduceIte, QlJ, QlN]; first | refine Qe (htake _ _) (.keep (.v _)) ⟨rfl, rfl⟩ | refine Qe List.take_length (.keep (.v _)) ⟨rfl, rfl⟩
    have z1 : (g.op == 1) = false := by simp [k1]
    by_cases k2 : g.op = 2
    · have z2 : (g.op == 2) = true := by simp [k2]
      rw [ZO, if_neg k0, if_neg k1, if_pos k2]
      refine Qh Tryz.func91 rfl Tryz.call91 Tryz.ntmps91 (congrArg Array.toList Tryz.results91) (by simp) ?_
      repeat (first | ((first | (with_reducible (first | refine Qa fun K E hK hE => ?_ | refine Qs c1 ?_))); simp -implicitDefEqProofs only [Qd, Qb, Qg, OpW, QR, aop, undef, AS.ev, Qc, Qq, QF, Qk, QD, QlK, AV.Qk5, QlX, QlY, QC, QA, QI, QlZ, Ql0, ↓reduceIte, QlQ, QlR, Nat.reduceAdd, Nat.reduceLT, Nat.reduceEqDiff, QlP, Ql2, Qmb, Ql, QK, QL, aBin, QO, QlD, QlF, QlS, QlW, QS, Xb, ti3, ti53, XG, Q3, Yb, z0, z1, z2]) | (with_reducible (first | refine Qi fun K hK => ?_ | refine Qm ?_ | refine Qn ?_ | refine Qv ?_ | refine Qf ?_ | refine QB ?_ | refine QH ?_)) | ((with_reducible refine hK _ ?_); clear hK) | (refine Qj rfl ?_; simp only [↓reduceIte, QlH]))
      simp only [QN, Qp, Qu, upd, ↓reduceIte, QlJ, QlN]; first | refine Qe (htake _ _) (.keep (.v _)) ⟨rfl, rfl⟩ | refine Qe List.take_length (.keep (.v _)) ⟨rfl, rfl⟩
    have z2 : (g.op == 2) = false := by simp [k2]
    by_cases k11 : g.op = 11
    · have z11 : (g.op == 11) = true := by simp [k11]
      rw [ZO, if_neg k0, if_neg k1, if_neg k2, if_pos k11]
      have c2 := Qci intB (by decide) g.args hn hf ho.2.2
      refine Qh Tryz.func91 rfl Tryz.call91 Tryz.ntmps91 (congrArg Array.toList Tryz.results91) (by simp) ?_
      repeat (first | ((first | (with_reducible (first | refine Qa fun K E hK hE => ?_ | refine Qs c1 ?_ | refine Qs c2 ?_))); simp -implicitDefEqProofs only [Qd, Qb, Qg, OpW, QR, aop, undef, AS.ev, Qc, Qq, QF, Qk, QD, QlK, AV.Qk5, QlX, QlY, QC, QA, QI, QlZ, Ql0, ↓reduceIte, QlQ, QlR, Nat.reduceAdd, Nat.reduceLT, Nat.reduceEqDiff, QlP, Ql2, Qmb, Ql, QK, QL, aBin, QO, QlD, QlE, QlF, QlS, QlW, QS, Xb, ti3, ti44, ti53, XG, Ya, Q3, Yb, z0, z1, z2, z11]) | (with_reducible (first | refine Qi fun K hK => ?_ | refine Qm ?_ | refine Qn ?_ | refine Qv ?_ | refine Qf ?_ | refine QB ?_ | refine QH ?_)) | ((with_reducible refine hK _ ?_); clear hK) | (refine Qj rfl ?_; simp only [↓reduceIte, QlH]))
      simp only [QN, Qp, Qu, upd, ↓reduceIte, QlJ, QlN]; first | refine Qe (htake _ _) (.keep (.v _)) ⟨rfl, rfl⟩ | refine Qe List.take_length (.keep (.v _)) ⟨rfl, rfl⟩
    have z11 : (g.op == 11) = false := by simp [k11]
    by_cases k12 : g.op = 12
    · have z12 : (g.op == 12) = true := by simp [k12]
      rw [ZO, if_neg k0, if_neg k1, if_neg k2, if_neg k11, if_pos k12]
      have c2 := Qci grdB (by decide) g.args hn hf ho.2.2
      refine Qh Tryz.func91 rfl Tryz.call91 Tryz.ntmps91 (congrArg Array.toList Tryz.results91) (by simp) ?_
      repeat (first | ((first | (with_reducible (first | refine Qa fun K E hK hE => ?_ | refine Qs c1 ?_ | refine Qs c2 ?_))); simp -implicitDefEqProofs only [Qd, Qb, Qg, OpW, QR, aop, undef, AS.ev, Qc, Qq, QF, Qk, QD, QlK, AV.Qk5, QlX, QlY, QC, QA, QI, QlZ, Ql0, ↓reduceIte, QlQ, QlR, Nat.reduceAdd, Nat.reduceLT, Nat.reduceEqDiff, QlP, Ql2, Qmb, Ql, QK, QL, aBin, QO, QlD, QlE, QlF, QlS, QlW, QS, Xb, ti3, ti44, ti53, XG, Ya, Q3, Yb, z0, z1, z2, z11, z12]) | (with_reducible (first | refine Qi fun K hK => ?_ | refine Qm ?_ | refine Qn ?_ | refine Qv ?_ | refine Qf ?_ | refine QB ?_ | refine QH ?_)) | ((with_reducible refine hK _ ?_); clear hK) | (refine Qj rfl ?_; simp only [↓reduceIte, QlH]))
      simp only [QN, Qp, Qu, upd, ↓reduceIte, QlJ, QlN]; first | refine Qe (htake _ _) (.keep (.v _)) ⟨rfl, rfl⟩ | refine Qe List.take_length (.keep (.v _)) ⟨rfl, rfl⟩
    have z12 : (g.op == 12) = false := by simp [k12]
    have hl2 : g.args.length = 2 := by
      rw [ZY, if_neg (by omega), if_neg (by omega)] at hlen; omega
    obtain ⟨x, y, hxy⟩ : ∃ x y, g.args = [x, y] := by
      match hh : g.args, hl2 with
      | [x, y], _ => exact ⟨x, y, rfl⟩
    have hoa := ho.2.2
    rw [hxy] at hf hoa hn
    have hnx : x.nds ≤ 1000000 ∧ y.nds ≤ 1000000 := by simp only [ndsL] at hn; omega
    have hfx : x.Qk7 = true := ZZ hf x (by simp)
    have hfy : y.Qk7 = true := ZZ hf y (by simp)
    have cx := Qey x hnx.1 hfx hoa.1
    have cy := Qey y hnx.2 hfy hoa.2.1
    have cs := Qg9 g.op (by omega) (by omega)
    rw [ZO, if_neg k0, if_neg k1, if_neg k2, if_neg k11, if_neg k12]
    have sx := (T.Qlb hfx).2.1
    have sy := (T.Qlb hfy).2.1
    have sx2 := T.Qla x
    have sy2 := T.Qla y
    have hav : avs g.args = [x.av, y.av] := by rw [hxy]; rfl
    have n02 : (0 : Int) < ((2 : Nat) : Int) := by decide
    have n01 : (0 : Int) ≤ 1 := by decide
    have n12 : (1 : Int) < ((2 : Nat) : Int) := by decide
    have hpt : pairT g.op (txts g.args) = (x.txt ++ (({ data := #[32] } : ByteArray) ++ Qc2 g.op ++ { data := #[32] })) ++ y.txt := by rw [hxy]; rfl
    have sb : (Qc2 g.op).size ≤ 3 := by
      have : g.op = 3 ∨ g.op = 4 ∨ g.op = 5 ∨ g.op = 6 ∨ g.op = 7 ∨ g.op = 8 ∨ g.op = 9 ∨ g.op = 10 := by omega
      rcases this with e | e | e | e | e | e | e | e <;> rw [e] <;> decide
    obtain ⟨X, eX⟩ : ∃ X, X = x.txt := ⟨_, rfl⟩
    obtain ⟨Y, eY⟩ : ∃ Y, Y = y.txt := ⟨_, rfl⟩
    obtain ⟨B, eB⟩ : ∃ B, B = Qc2 g.op := ⟨_, rfl⟩
    rw [← eX] at cx sx hpt
    rw [← eY] at cy sy hpt
    rw [← eB] at cs sb hpt
    have h1 : ({ data := #[32] } : ByteArray).size = 1 := rfl
    have hsa1 := fun xo yo => Xl Tryz.prog 9 xo yo X ({ data := #[32] } : ByteArray) (by omega)
    have hsa2 := fun xo yo => Xl Tryz.prog 9 xo yo (X ++ ({ data := #[32] } : ByteArray)) B (by rw [Qt]; omega)
    have hsa3 := fun xo yo => Xl Tryz.prog 9 xo yo (X ++ ({ data := #[32] } : ByteArray) ++ B) ({ data := #[32] } : ByteArray) (by rw [Qt, Qt]; omega)
    have hsa4 := fun xo yo => Xl Tryz.prog 9 xo yo (X ++ ({ data := #[32] } : ByteArray) ++ B ++ ({ data := #[32] } : ByteArray)) Y (by rw [Qt, Qt, Qt]; omega)
    rw [hpt]
    refine Qh Tryz.func91 rfl Tryz.call91 Tryz.ntmps91 (congrArg Array.toList Tryz.results91) (by simp) ?_
    repeat (first | ((first | (with_reducible (first | refine Qa fun K E hK hE => ?_ | refine Qs c1 ?_ | refine QQ cx ?_ | refine QQ cy ?_ | refine QQ cs ?_)) | (refine QX (id := 14) [(0, 0), (1, 0), (2, 0), (3, 0), (4, 1), (5, 0), (6, 0), (7, 0), (8, 1), (9, 0), (10, 0), (11, 0), (12, 0), (13, 0), (14, 0), (15, 1), (16, 0), (17, 0)] mixed (by kernel_rfl) fun K hK => ?_)); simp -implicitDefEqProofs only [Xk, Xd, Xw, Qd, Qb, Qg, OpW, QR, aop, undef, AS.ev, Qc, Qq, QF, Qk, QD, QlK, AV.Qk5, QlX, QlY, QC, QA, QI, QlZ, Ql0, ↓reduceIte, QlQ, QlR, Nat.reduceAdd, Nat.reduceLT, Nat.reduceLeDiff, Nat.reduceEqDiff, QlP, Ql2, Qmb, Ql, QK, QL, QJ, aBin, QO, QlD, QlE, QlF, QlG, QlS, QlW, QS, Xb, Int.toNat_zero, Int.toNat_one, T.Qk4, T.Qk6, ti3, ti44, ei44, ti53, XG, Ya, ti69, Qmq, Q3, Yb, z0, z1, z2, z11, z12, n02, n12, n01, hav, hsa1, hsa2, hsa3, hsa4]) | (with_reducible (first | refine Qi fun K hK => ?_ | refine Qm ?_ | refine Qn ?_ | refine Qv ?_ | refine Qf ?_ | refine Qw ?_)) | ((with_reducible refine hK _ ?_); clear hK) | (refine Qj rfl ?_; simp only [↓reduceIte, QlH]))
    simp only [QN, Qp, Qu, upd, ↓reduceIte, QlJ, QlN]; first | refine Qe (htake _ _) (.keep (.v _)) ⟨by simp only [ByteArray.append_assoc], rfl⟩ | refine Qe List.take_length (.keep (.v _)) ⟨by simp only [ByteArray.append_assoc], rfl⟩
theorem Qff : ∀ {l : List G} {k : Nat} (h : k < l.length), ndsL (l[k]).args ≤ ndsG l
  | p :: l, 0, _ => by simp only [List.getElem_cons_zero, ndsG]; omega
  | p :: l, k + 1, h => by
    have := Qff (l := l) (k := k) (by simpa using h)
    simp only [List.getElem_cons_succ, ndsG]; omega
theorem Qca (l : List G) (hl : l.length ≤ 100000) (hn : ndsG l ≤ 1000000) (ho : ∀ g ∈ l, g.ok) :
    Pure Tryz.prog 42 [.sl 2 (vs G.atom l) none] (.tup [.v (.string (if l.all Q8 = true then jA l else { data := #[] })), .b (l.all Q8)]) := by
  intro h
  refine Qh Tryz.func42 rfl Tryz.call42 Tryz.ntmps42 (congrArg Array.toList Tryz.results42) (by simp) ?_
  repeat (first | (((with_reducible refine Qa fun K E hK hE => ?_)); simp -implicitDefEqProofs only [Qd, Qb, Qg, OpW, aop, AS.ev, Qc, Qq, Qr, QF, Nat.reduceLT]) | (with_reducible (first | refine Qi fun K hK => ?_ | refine Qm ?_)) | ((with_reducible refine hK _ ?_); clear hK))
  obtain ⟨I, hI⟩ : ∃ I : Nat → AS → Prop, I = fun m' s => ∃ k : Nat, m' = l.length - k ∧ k ≤ l.length ∧ (l.take k).all Q8 = true ∧ s.tm 0 = .sl 2 (vs G.atom l) none ∧ s.tm 4 = .v (.string (jA (l.take k))) ∧ s.tm 5 = .i k ∧ s.h = h := ⟨_, rfl⟩; refine Q9 I ?_ (m := l.length) ?_
  · intro m' s hs; rw [hI] at hs; obtain ⟨tm, hp⟩ := s; dsimp only at hs; obtain ⟨k, rfl, hk, hal, t0, t4, t5, rfl⟩ := hs
    by_cases hlt : k < l.length
    · have hg := YN G.atom hlt
      have z9 : (k : Int) < l.length := by omega
      have hm := List.getElem_mem hlt
      have hnk : ndsL (l[k]).args ≤ 1000000 := Nat.le_trans (Qff hlt) hn
      have c1 := ZE l[k] hnk (ho _ hm)
      have c2 := QcW l[k] hnk (ho _ hm)
      cases hr : Q8 l[k] with
      | false =>
        have hall : l.all Q8 = false := by
          rw [← Bool.not_eq_true]; intro hc
          rw [List.all_eq_true.1 hc _ hm] at hr; cases hr
        rw [hr] at c1
        repeat (first | ((first | (with_reducible (first | refine Qa fun K E hK hE => ?_ | refine Qs c1 ?_))); simp -implicitDefEqProofs only [Qd, Qb, Qg, OpW, QR, aop, AS.ev, Qc, Qr, QF, Qk, Ql1, ↓reduceIte, QlQ, QlR, Nat.reduceAdd, Nat.reduceLT, Nat.reduceEqDiff, QlP, Qmb, QK, QL, QJ, aBin, aLen, QlF, QlS, QlW, QW, Xb, goInt, Ql9, Qmg, Qmf, ei22, un22, ti66, t0, t5, z9, hg, QG, XB, Y7]) | (with_reducible (first | refine Qi fun K hK => ?_ | refine Qm ?_ | refine Qn ?_ | refine Qv ?_ | refine Qf ?_ | refine QB ?_ | refine QH ?_)) | ((with_reducible refine hK _ ?_); clear hK) | (refine Qj rfl ?_; simp only [↓reduceIte]))
        simp -implicitDefEqProofs only [Qk, ↓reduceIte, Nat.reduceEqDiff, QlF, QlI, QlJ, List.mapM_cons, List.mapM_nil, Option.pure_def, Option.bind_eq_bind, QN, Qp, Qu, QlN]
        exact Qe (Qcf _) (.keep (.tup _ fun x hx => by simp only [List.mem_cons, List.not_mem_nil, or_false] at hx; rcases hx with rfl | rfl <;> exact .v _)) ⟨by rw [hall]; rfl, rfl⟩
      | true =>
        rw [hr] at c1
        have hj1 := QdU hal
        have hlk : (l.take k).length ≤ 100000 := by rw [List.length_take]; omega
        have hj2 := (Qhm hr).2
        have hsc : ({ data := #[44, 32] } : ByteArray).size = 2 := rfl
        have hall : (l.take (k + 1)).all Q8 = true := by rw [List.take_succ_eq_append_getElem hlt, List.all_append, hal]; simp [hr]
        have hj : jA (l.take (k + 1)) = jA (l.take k) ++ (if (true && ((l.take k).map txtA).isEmpty) = true then txtA l[k] else YP ++ txtA l[k]) := by
          rw [jA, jA, List.take_succ_eq_append_getElem hlt, List.map_append]; exact Qat _ _ _
        obtain ⟨J, eJ⟩ : ∃ J, J = jA (l.take k) := ⟨_, rfl⟩
        rw [← eJ] at t4 hj1 hj
        obtain ⟨X, eX⟩ : ∃ X, X = txtA l[k] := ⟨_, rfl⟩
        rw [← eX] at c2 hj2 hj
        have hsa1 := fun xo yo => Xl Tryz.prog 9 xo yo J ({ data := #[44, 32] } : ByteArray) (by omega)
        have hsa2 := fun xo yo => Xl Tryz.prog 9 xo yo (J ++ ({ data := #[44, 32] } : ByteArray)) X (by rw [Qt]; omega)
        have hsa3 := fun xo yo => Xl Tryz.prog 9 xo yo J X (by omega)
        by_cases k0 : k = 0
        · have z0 : ¬ (k : Int) > 0 := by omega
          have hj' : jA (l.take (k + 1)) = J ++ X := by
            have hem : ((l.take k).map txtA).isEmpty = true := by rw [k0]; rfl
            rw [hj, hem]; rfl
          repeat (first | ((first | (with_reducible (first | refine Qa fun K E hK hE => ?_ | refine Qo fun K E hK hE => ?_ | refine Qs c1 ?_ | refine Qs c2 ?_))); simp -implicitDefEqProofs only [Qd, Qb, Qg, OpW, QR, aop, AS.ev, Qc, Qq, Qk, Ql0, ↓reduceIte, QlQ, QlR, Nat.reduceAdd, Nat.reduceLT, Nat.reduceEqDiff, QlP, Qmb, QK, QL, QJ, aBin, aLen, QlF, QlS, QlW, QW, Q1, Xf, Xb, goInt, Ql9, Qma, Qmg, Qmf, ei22, un22, ti66, t0, t4, t5, z9, z0, hg, QG, XB, Y7, hsa3]) | (with_reducible (first | refine Qi fun K hK => ?_ | refine Qm ?_ | refine Qv ?_ | refine Qf ?_ | refine Qw ?_)) | ((with_reducible refine hK _ ?_); clear hK) | (refine Qj rfl ?_; simp only [↓reduceIte, QlH]))
          refine XD.mk (m' := l.length - (k + 1)) (by omega) ?_
          rw [hI]
          refine ⟨k + 1, rfl, hlt, hall, t0, ?_, ?_, rfl⟩
          · simp only [upd, ↓reduceIte, Nat.reduceEqDiff]
            rw [hj']
          · simp only [upd, ↓reduceIte]
            rw [Xe (by omega)]
        · have z0 : (k : Int) > 0 := by omega
          have hj' : jA (l.take (k + 1)) = (J ++ ({ data := #[44, 32] } : ByteArray)) ++ X := by
            have hne : ((l.take k).map txtA).isEmpty = false := by
              cases hh : (l.take k).map txtA with
              | nil => have := congrArg List.length hh; rw [List.length_map, List.length_take] at this; simp only [QlR] at this; omega
              | cons => rfl
            rw [hj, hne, ByteArray.append_assoc]; rfl
          repeat (first | ((first | (with_reducible (first | refine Qa fun K E hK hE => ?_ | refine Qo fun K E hK hE => ?_ | refine Qs c1 ?_ | refine Qs c2 ?_))); simp -implicitDefEqProofs only [Qd, Qb, Qg, OpW, QR, aop, AS.ev, Qc, Qq, QF, Qk, Ql0, ↓reduceIte, QlQ, QlR, Nat.reduceAdd, Nat.reduceLT, Nat.reduceEqDiff, QlP, Qmb, QK, QL, QJ, aBin, aLen, QlF, QlS, QlW, QW, Q1, Xf, Xb, goInt, Ql9, Qmg, Qmf, ei22, un22, ti66, t0, t4, t5, z9, z0, hg, QG, XB, Y7, hsa1, hsa2]) | (with_reducible (first | refine Qi fun K hK => ?_ | refine Qm ?_ | refine Qv ?_ | refine Qf ?_ | refine Qw ?_)) | ((with_reducible refine hK _ ?_); clear hK) | (refine Qj rfl ?_; simp only [↓reduceIte, QlH]))
          refine XD.mk (m' := l.length - (k + 1)) (by omega) ?_
          rw [hI]
          refine ⟨k + 1, rfl, hlt, hall, t0, ?_, ?_, rfl⟩
          · simp only [upd, ↓reduceIte, Nat.reduceEqDiff]
            rw [hj']
          · simp only [upd, ↓reduceIte]
            rw [Xe (by omega)]
    · have z9 : ¬ (k : Int) < l.length := by omega
      have hkl : k = l.length := by omega
      rw [hkl, List.take_length] at t4 hal
      repeat (first | (((with_reducible refine Qa fun K E hK hE => ?_)); simp -implicitDefEqProofs only [Qd, Qb, Qg, OpW, aop, AS.ev, Qc, Qr, Qk, ↓reduceIte, Nat.reduceLT, Nat.reduceEqDiff, aBin, aLen, QlF, QW, goInt, Qma, un22, t0, t4, t5, z9, QG]) | (with_reducible (first | refine Qi fun K hK => ?_ | refine Qn ?_ | refine Q2 ?_ | refine Qf ?_ | refine QU ?_ | refine QV ?_)) | ((with_reducible refine hK _ ?_); clear hK) | (clear hK; (with_reducible refine hK _ ?_); clear hK) | (refine Qj rfl ?_; simp only [↓reduceIte, QlH]))
      simp -implicitDefEqProofs only [Qk, ↓reduceIte, Nat.reduceEqDiff, QlF, QlI, QlJ, List.mapM_cons, List.mapM_nil, Option.pure_def, Option.bind_eq_bind, QN, Qp, Qu, QlN]
      exact Qe (Qcf _) (.keep (.tup _ fun x hx => by simp only [List.mem_cons, List.not_mem_nil, or_false] at hx; rcases hx with rfl | rfl <;> exact .v _)) ⟨by rw [hal]; rfl, rfl⟩
  · rw [hI]
    exact ⟨0, by omega, Nat.zero_le _, rfl, rfl, rfl, rfl, rfl⟩
theorem QaL (l : List G) (hl : l.length ≤ 100000) (hn : ndsG l ≤ 1000000) (ho : ∀ g ∈ l, g.ok) :
    Pure Tryz.prog 43 [.sl 3 (vs G.goal l) none] (.tup [.v (.string (if l.all Q4 = true then jG l else { data := #[] })), .b (l.all Q4)]) := by
  intro h
  refine Qh Tryz.func43 rfl Tryz.call43 Tryz.ntmps43 (congrArg Array.toList Tryz.results43) (by simp) ?_
  repeat (first | (((with_reducible refine Qa fun K E hK hE => ?_)); simp -implicitDefEqProofs only [Qd, Qb, Qg, OpW, aop, AS.ev, Qc, Qq, Qr, QF, Nat.reduceLT]) | (with_reducible (first | refine Qi fun K hK => ?_ | refine Qm ?_)) | ((with_reducible refine hK _ ?_); clear hK))
  obtain ⟨I, hI⟩ : ∃ I : Nat → AS → Prop, I = fun m' s => ∃ k : Nat, m' = l.length - k ∧ k ≤ l.length ∧ (l.take k).all Q4 = true ∧ s.tm 0 = .sl 3 (vs G.goal l) none ∧ s.tm 4 = .v (.string (jG (l.take k))) ∧ s.tm 5 = .i k ∧ s.h = h := ⟨_, rfl⟩; refine Q9 I ?_ (m := l.length) ?_
  · intro m' s hs; rw [hI] at hs; obtain ⟨tm, hp⟩ := s; dsimp only at hs; obtain ⟨k, rfl, hk, hal, t0, t4, t5, rfl⟩ := hs
    by_cases hlt : k < l.length
    · have hg := YN G.goal hlt
      have z9 : (k : Int) < l.length := by omega
      have hm := List.getElem_mem hlt
      have hnk : ndsL (l[k]).args ≤ 1000000 := Nat.le_trans (Qff hlt) hn
      have c1 := Qau l[k] hnk (ho _ hm)
      have c2 := Qc4 l[k] hnk (ho _ hm)
      cases hr : Q4 l[k] with
      | false =>
        have hall : l.all Q4 = false := by
          rw [← Bool.not_eq_true]; intro hc
          rw [List.all_eq_true.1 hc _ hm] at hr; cases hr
        rw [hr] at c1
        repeat (first | ((first | (with_reducible (first | refine Qa fun K E hK hE => ?_ | refine Qs c1 ?_))); simp -implicitDefEqProofs only [Qd, Qb, Qg, OpW, QR, aop, AS.ev, Qc, Qr, QF, Qk, Ql1, ↓reduceIte, QlQ, QlR, Nat.reduceAdd, Nat.reduceLT, Nat.reduceEqDiff, QlP, Qmb, QK, QL, QJ, aBin, aLen, QlF, QlS, QlW, QW, Xb, goInt, Ql9, Qmg, Qmf, ei23, un23, ti53, t0, t5, z9, hg, QG, Q3, Yb]) | (with_reducible (first | refine Qi fun K hK => ?_ | refine Qm ?_ | refine Qn ?_ | refine Qv ?_ | refine Qf ?_ | refine QB ?_ | refine QH ?_)) | ((with_reducible refine hK _ ?_); clear hK) | (refine Qj rfl ?_; simp only [↓reduceIte]))
        simp -implicitDefEqProofs only [Qk, ↓reduceIte, Nat.reduceEqDiff, QlF, QlI, QlJ, List.mapM_cons, List.mapM_nil, Option.pure_def, Option.bind_eq_bind, QN, Qp, Qu, QlN]
        exact Qe (Qcf _) (.keep (.tup _ fun x hx => by simp only [List.mem_cons, List.not_mem_nil, or_false] at hx; rcases hx with rfl | rfl <;> exact .v _)) ⟨by rw [hall]; rfl, rfl⟩
      | true =>
        rw [hr] at c1
        have hj1 := Qds hal
        have hlk : (l.take k).length ≤ 100000 := by rw [List.length_take]; omega
        have hj2 := (QgJ hr).2
        have hsc : ({ data := #[44, 32] } : ByteArray).size = 2 := rfl
        have hall : (l.take (k + 1)).all Q4 = true := by rw [List.take_succ_eq_append_getElem hlt, List.all_append, hal]; simp [hr]
        have hj : jG (l.take (k + 1)) = jG (l.take k) ++ (if (true && ((l.take k).map txtG).isEmpty) = true then txtG l[k] else YP ++ txtG l[k]) := by
          rw [jG, jG, List.take_succ_eq_append_getElem hlt, List.map_append]; exact Qat _ _ _
        obtain ⟨J, eJ⟩ : ∃ J, J = jG (l.take k) := ⟨_, rfl⟩
        rw [← eJ] at t4 hj1 hj
        obtain ⟨X, eX⟩ : ∃ X, X = txtG l[k] := ⟨_, rfl⟩
        rw [← eX] at c2 hj2 hj
        have hsa1 := fun xo yo => Xl Tryz.prog 9 xo yo J ({ data := #[44, 32] } : ByteArray) (by omega)
        have hsa2 := fun xo yo => Xl Tryz.prog 9 xo yo (J ++ ({ data := #[44, 32] } : ByteArray)) X (by rw [Qt]; omega)
        have hsa3 := fun xo yo => Xl Tryz.prog 9 xo yo J X (by omega)
        by_cases k0 : k = 0
        · have z0 : ¬ (k : Int) > 0 := by omega
          have hj' : jG (l.take (k + 1)) = J ++ X := by
            have hem : ((l.take k).map txtG).isEmpty = true := by rw [k0]; rfl
            rw [hj, hem]; rfl
          repeat (first | ((first | (with_reducible (first | refine Qa fun K E hK hE => ?_ | refine Qo fun K E hK hE => ?_ | refine Qs c1 ?_ | refine Qs c2 ?_))); simp -implicitDefEqProofs only [Qd, Qb, Qg, OpW, QR, aop, AS.ev, Qc, Qq, Qk, Ql0, ↓reduceIte, QlQ, QlR, Nat.reduceAdd, Nat.reduceLT, Nat.reduceEqDiff, QlP, Qmb, QK, QL, QJ, aBin, aLen, QlF, QlS, QlW, QW, Q1, Xf, Xb, goInt, Ql9, Qma, Qmg, Qmf, ei23, un23, ti53, t0, t4, t5, z9, z0, hg, QG, Q3, Yb, hsa3]) | (with_reducible (first | refine Qi fun K hK => ?_ | refine Qm ?_ | refine Qv ?_ | refine Qf ?_ | refine Qw ?_)) | ((with_reducible refine hK _ ?_); clear hK) | (refine Qj rfl ?_; simp only [↓reduceIte, QlH]))
          refine XD.mk (m' := l.length - (k + 1)) (by omega) ?_
          rw [hI]
          refine ⟨k + 1, rfl, hlt, hall, t0, ?_, ?_, rfl⟩
          · simp only [upd, ↓reduceIte, Nat.reduceEqDiff]
            rw [hj']
          · simp only [upd, ↓reduceIte]
            rw [Xe (by omega)]
        · have z0 : (k : Int) > 0 := by omega
          have hj' : jG (l.take (k + 1)) = (J ++ ({ data := #[44, 32] } : ByteArray)) ++ X := by
            have hne : ((l.take k).map txtG).isEmpty = false := by
              cases hh : (l.take k).map txtG with
              | nil => have := congrArg List.length hh; rw [List.length_map, List.length_take] at this; simp only [QlR] at this; omega
              | cons => rfl
            rw [hj, hne, ByteArray.append_assoc]; rfl
          repeat (first | ((first | (with_reducible (first | refine Qa fun K E hK hE => ?_ | refine Qo fun K E hK hE => ?_ | refine Qs c1 ?_ | refine Qs c2 ?_))); simp -implicitDefEqProofs only [Qd, Qb, Qg, OpW, QR, aop, AS.ev, Qc, Qq, QF, Qk, Ql0, ↓reduceIte, QlQ, QlR, Nat.reduceAdd, Nat.reduceLT, Nat.reduceEqDiff, QlP, Qmb, QK, QL, QJ, aBin, aLen, QlF, QlS, QlW, QW, Q1, Xf, Xb, goInt, Ql9, Qmg, Qmf, ei23, un23, ti53, t0, t4, t5, z9, z0, hg, QG, Q3, Yb, hsa1, hsa2]) | (with_reducible (first | refine Qi fun K hK => ?_ | refine Qm ?_ | refine Qv ?_ | refine Qf ?_ | refine Qw ?_)) | ((with_reducible refine hK _ ?_); clear hK) | (refine Qj rfl ?_; simp only [↓reduceIte, QlH]))
          refine XD.mk (m' := l.length - (k + 1)) (by omega) ?_
          rw [hI]
          refine ⟨k + 1, rfl, hlt, hall, t0, ?_, ?_, rfl⟩
          · simp only [upd, ↓reduceIte, Nat.reduceEqDiff]
            rw [hj']
          · simp only [upd, ↓reduceIte]
            rw [Xe (by omega)]
    · have z9 : ¬ (k : Int) < l.length := by omega
      have hkl : k = l.length := by omega
      rw [hkl, List.take_length] at t4 hal
      repeat (first | (((with_reducible refine Qa fun K E hK hE => ?_)); simp -implicitDefEqProofs only [Qd, Qb, Qg, OpW, aop, AS.ev, Qc, Qr, Qk, ↓reduceIte, Nat.reduceLT, Nat.reduceEqDiff, aBin, aLen, QlF, QW, goInt, Qma, un23, t0, t4, t5, z9, QG]) | (with_reducible (first | refine Qi fun K hK => ?_ | refine Qn ?_ | refine Q2 ?_ | refine Qf ?_ | refine QU ?_ | refine QV ?_)) | ((with_reducible refine hK _ ?_); clear hK) | (clear hK; (with_reducible refine hK _ ?_); clear hK) | (refine Qj rfl ?_; simp only [↓reduceIte, QlH]))
      simp -implicitDefEqProofs only [Qk, ↓reduceIte, Nat.reduceEqDiff, QlF, QlI, QlJ, List.mapM_cons, List.mapM_nil, Option.pure_def, Option.bind_eq_bind, QN, Qp, Qu, QlN]
      exact Qe (Qcf _) (.keep (.tup _ fun x hx => by simp only [List.mem_cons, List.not_mem_nil, or_false] at hx; rcases hx with rfl | rfl <;> exact .v _)) ⟨by rw [hal]; rfl, rfl⟩
  · rw [hI]
    exact ⟨0, by omega, Nat.zero_le _, rfl, rfl, rfl, rfl, rfl⟩
theorem Qaa (s : ByteArray) : Pure Tryz.prog 45 [.v (.string s)] (.v (.string (ZV s))) := by
  intro h
  have hsl := fun s => Z4 Tryz.prog 9 3 Qin s
  by_cases q : 16384 < s.size
  · have z : (s.size : Int) > 16384 := by omega
    rw [ZV, if_pos q]
    refine Qh Tryz.func45 rfl Tryz.call45 Tryz.ntmps45 (congrArg Array.toList Tryz.results45) (by simp) ?_
    repeat (first | (((with_reducible refine Qa fun K E hK hE => ?_)); simp -implicitDefEqProofs only [Qd, Qb, Qg, OpW, aop, undef, AS.ev, Qc, Qq, QF, Qk, QD, QlK, ↓reduceIte, Nat.reduceLT, Nat.reduceEqDiff, aBin, aLen, QlF, Q1, goInt, Ql9, hsl, z]) | (with_reducible (first | refine Qi fun K hK => ?_ | refine Qn ?_ | refine QB ?_)) | ((with_reducible refine hK _ ?_); clear hK) | (refine Qj rfl ?_; simp only [↓reduceIte]))
    simp only [QN, Qp, Qu, upd, ↓reduceIte, QlJ, QlN]; first | refine Qe (htake _ _) (.keep (.v _)) ⟨rfl, rfl⟩ | refine Qe List.take_length (.keep (.v _)) ⟨rfl, rfl⟩
  · have z : ¬ (s.size : Int) > 16384 := by omega
    rw [ZV, if_neg q]
    refine Qh Tryz.func45 rfl Tryz.call45 Tryz.ntmps45 (congrArg Array.toList Tryz.results45) (by simp) ?_
    repeat (first | (((with_reducible refine Qa fun K E hK hE => ?_)); simp -implicitDefEqProofs only [Qd, Qb, Qg, OpW, aop, undef, AS.ev, Qc, Qq, QF, Qk, QD, QlK, ↓reduceIte, Nat.reduceLT, Nat.reduceEqDiff, aBin, aLen, QlF, Q1, goInt, Qma, hsl, z]) | (with_reducible (first | refine Qi fun K hK => ?_ | refine Qn ?_ | refine Qv ?_ | refine Qf ?_)) | ((with_reducible refine hK _ ?_); clear hK) | (refine Qj rfl ?_; simp only [↓reduceIte, QlH]))
    simp only [QN, Qp, Qu, upd, ↓reduceIte, QlJ, QlN]; first | refine Qe (htake _ _) (.keep (.v _)) ⟨rfl, rfl⟩ | refine Qe List.take_length (.keep (.v _)) ⟨rfl, rfl⟩
end Go.Proofs.YtenheconhibonaaGreatDoor.Ab
set_option maxRecDepth 4000
namespace Go.Proofs.YtenheconhibonaaGreatDoor.Ab
open Go.Proofs
def plcI (u : List Int) (n : Int) : Int := ((plc u n : Nat) : Int)
theorem QhE {n : Int} : ∀ {u : List Int} {k : Nat}, (∀ j, j < k → ∀ h : j < u.length, u[j] ≠ n) → k ≤ u.length → plc u n = k + plc (u.drop k) n
  | u, 0, _, _ => by rw [List.drop_zero, Nat.zero_add]
  | [], k + 1, _, hk => by simp at hk
  | a :: u, k + 1, h, hk => by
    have h0 : a ≠ n := h 0 (by omega) (by simp)
    rw [List.drop_succ_cons, plc, if_neg h0, QhE (u := u) (k := k) (fun j hj hl => by have := h (j + 1) (by omega) (by simpa using hl); simpa using this) (by simpa using hk)]
    omega
theorem Qh6 (u : List Int) (n : Int) (hb : u.length ≤ 1000000) (hm : n ∈ u) : Pure Tryz.prog 113 [.sl 1 (ints u) none, .i n] (.i (plcI u n)) := by
  intro h
  refine Qh Tryz.func113 rfl Tryz.call113 Tryz.ntmps113 (congrArg Array.toList Tryz.results113) (by simp) ?_
  repeat (first | (((with_reducible refine Qa fun K E hK hE => ?_)); simp -implicitDefEqProofs only [Qd, Qb, Qg, OpW, aop, AS.ev, Qc, Qq, Nat.reduceLT]) | (with_reducible (first | refine Qi fun K hK => ?_ | refine Qm ?_)) | ((with_reducible refine hK _ ?_); clear hK))
  obtain ⟨I, hI⟩ : ∃ I : Nat → AS → Prop, I = fun m' s => ∃ k : Nat, m' = u.length - k ∧ k ≤ u.length ∧ (∀ j, j < k → ∀ h : j < u.length, u[j] ≠ n) ∧ s.tm 0 = .sl 1 (ints u) none ∧ s.tm 1 = .i n ∧ s.tm 5 = .i k ∧ s.h = h := ⟨_, rfl⟩; refine Q9 I ?_ (m := u.length) ?_
  · intro m' s hs; rw [hI] at hs; obtain ⟨tm, hp⟩ := s; dsimp only at hs; obtain ⟨k, rfl, hk, he, t0, t1, t5, rfl⟩ := hs
    by_cases hlt : k < u.length
    · have hg : (ints u)[k]? = some (.i u[k]) := by rw [ints, List.getElem?_map, List.getElem?_eq_getElem hlt]; rfl
      have z9 : (k : Int) < u.length := by omega
      by_cases q : u[k] = n
      · have z : (u[k] == n) = true := by simp [q]
        repeat (first | (((with_reducible refine Qa fun K E hK hE => ?_)); simp -implicitDefEqProofs only [Qd, Qb, Qg, OpW, aop, AS.ev, Qc, Qk, Q6, ↓reduceIte, Nat.reduceLT, Nat.reduceEqDiff, Qmb, QK, QL, QJ, aBin, aLen, QlD, QlF, QS, QW, goInt, Ql9, Qmg, Qmf, Xg, ti3, ei42, un42, t0, t1, t5, z9, hg, z, Xg]) | (with_reducible (first | refine Qi fun K hK => ?_ | refine Qm ?_ | refine Qn ?_ | refine Qv ?_ | refine Qf ?_ | refine QB ?_ | refine QH ?_)) | ((with_reducible refine hK _ ?_); clear hK) | (refine Qj rfl ?_; simp only [↓reduceIte]))
        simp only [QN, Qp, Qu, upd, ↓reduceIte, QlJ, QlN]
        refine Qe (Qcf _) (.keep (.v _)) ⟨?_, rfl⟩
        rw [plcI, QhE he hk, List.drop_eq_getElem_cons hlt, plc, if_pos q]; rfl
      · have z : (u[k] == n) = false := by simp [q]
        repeat (first | ((first | (with_reducible (first | refine Qa fun K E hK hE => ?_ | refine Qo fun K E hK hE => ?_))); simp -implicitDefEqProofs only [Qd, Qb, Qg, OpW, aop, AS.ev, Qc, Qq, Qk, Q6, ↓reduceIte, Nat.reduceLT, Nat.reduceEqDiff, Qmb, QK, QL, QJ, aBin, aLen, QlD, QlF, QS, QW, Xf, goInt, Ql9, Qmg, Qmf, Xg, ti3, ei42, un42, t0, t1, t5, z9, hg, z, Xg]) | (with_reducible (first | refine Qi fun K hK => ?_ | refine Qm ?_ | refine Qv ?_ | refine Qf ?_ | refine Qw ?_)) | ((with_reducible refine hK _ ?_); clear hK) | (refine Qj rfl ?_; simp only [↓reduceIte, QlH]))
        refine XD.mk (m' := u.length - (k + 1)) (by omega) ?_
        rw [hI]
        refine ⟨k + 1, rfl, hlt, ?_, t0, t1, ?_, rfl⟩
        · intro j hj hl
          by_cases hjk : j = k
          · subst hjk; exact q
          · exact he j (by omega) hl
        · simp only [upd, ↓reduceIte]
          rw [Xe (by omega)]
    · exfalso
      obtain ⟨j, hj, e⟩ := List.getElem_of_mem hm
      exact he j (by omega) hj e
  · rw [hI]
    exact ⟨0, by omega, Nat.zero_le _, fun j hj => by omega, rfl, rfl, rfl, rfl⟩
theorem Qdn : ∀ {l : List G} {j : Nat} (hlt : j < l.length), ∀ v ∈ X9 (l[j]).args, v ∈ X9 (YB l)
  | g :: l, 0, _, v, hv => by rw [Qbt, Zw]; exact List.mem_append.2 (.inl (by simpa using hv))
  | g :: l, j + 1, h, v, hv => by rw [Qbt, Zw]; exact List.mem_append.2 (.inr (Qdn (l := l) (j := j) (by simpa using h) v (by simpa using hv)))
theorem Qf2 : ∀ {l : List T} {j : Nat} (hlt : j < l.length), ∀ v ∈ (l[j]).vars, v ∈ X9 l
  | t :: l, 0, _, v, hv => by rw [X9]; exact List.mem_append.2 (.inl (by simpa using hv))
  | t :: l, j + 1, h, v, hv => by rw [X9]; exact List.mem_append.2 (.inr (Qf2 (l := l) (j := j) (by simpa using h) v (by simpa using hv)))
theorem QbC (u : List Int) (hu : u.length ≤ 1000000) : ∀ n, n ≤ 1000000 → ∀ l : List T, ndsL l ≤ n → (∀ v ∈ X9 l, v ∈ u) → Pure Tryz.prog 71 [.sl 1 (ints u) none, .sl 4 (avs l) none] (.sl 4 (avs (maps (plcI u) l)) none) := by
  intro n
  induction n with
  | zero =>
    intro _ l hn hv h
    have hl : l = [] := by
      cases l with
      | nil => rfl
      | cons t l => have := T.Qlc t; simp only [ndsL] at hn; omega
    subst hl
    refine Qh Tryz.func71 rfl Tryz.call71 Tryz.ntmps71 (congrArg Array.toList Tryz.results71) (by simp) ?_
    repeat (first | (((with_reducible refine Qa fun K E hK hE => ?_)); simp -implicitDefEqProofs only [Qd, Qb, Qg, OpW, aop, AS.ev, Qc, Qq, Xq, Nat.reduceLT]) | (with_reducible (first | refine Qi fun K hK => ?_ | refine Qm ?_)) | ((with_reducible refine hK _ ?_); clear hK))
    refine Y2 5 69 4 rfl ?_
    obtain ⟨I, hI⟩ : ∃ I : Nat → AS → Prop, I = fun m' s => m' = 0 ∧ s.tm 1 = .sl 4 (avs []) none ∧ s.tm 5 = .sl 4 (avs []) (some h.length) ∧ s.tm 6 = .i 0 ∧ s.h = h ++ [.grow 69 4 0] := ⟨_, rfl⟩; refine Q9 I ?_ (m := 0) ?_
    · intro m' s hs; rw [hI] at hs; obtain ⟨tm, hp⟩ := s; dsimp only at hs; obtain ⟨rfl, t1, t5, t6, rfl⟩ := hs
      have z9 : ¬ (0 : Int) < 0 := by decide
      repeat (first | (((with_reducible refine Qa fun K E hK hE => ?_)); simp -implicitDefEqProofs only [Qd, Qb, Qg, OpW, aop, AS.ev, Qc, Qk, ↓reduceIte, QlR, Nat.reduceLT, Nat.reduceEqDiff, aBin, aLen, QlF, QW, goInt, Qma, Qmp, un44, t1, t5, t6, z9, Qcw]) | (with_reducible (first | refine Qi fun K hK => ?_ | refine Qn ?_ | refine Q2 ?_ | refine Qf ?_ | refine QU ?_ | refine QV ?_)) | ((with_reducible refine hK _ ?_); clear hK) | (clear hK; (with_reducible refine hK _ ?_); clear hK) | (refine Qj rfl ?_; simp only [↓reduceIte, QlH]))
      simp only [QN, Qp, Qu, upd, ↓reduceIte, QlJ, QlN]
      exact Qe (htake _ _) (.tok fun a ha => by simp [flat] at ha) ⟨rfl, rfl⟩
    · rw [hI]
      exact ⟨rfl, rfl, rfl, rfl, rfl⟩
  | succ n ih =>
    intro hb l hn hv h
    have hll := XK l
    refine Qh Tryz.func71 rfl Tryz.call71 Tryz.ntmps71 (congrArg Array.toList Tryz.results71) (by simp) ?_
    repeat (first | (((with_reducible refine Qa fun K E hK hE => ?_)); simp -implicitDefEqProofs only [Qd, Qb, Qg, OpW, aop, AS.ev, Qc, Qq, Xq, Nat.reduceLT]) | (with_reducible (first | refine Qi fun K hK => ?_ | refine Qm ?_)) | ((with_reducible refine hK _ ?_); clear hK))
    refine Y2 5 69 4 rfl ?_
    obtain ⟨I, hI⟩ : ∃ I : Nat → AS → Prop, I = fun m' s => ∃ (j : Nat) (L : AH), m' = l.length - j ∧ j ≤ l.length ∧ s.tm 0 = .sl 1 (ints u) none ∧ s.tm 1 = .sl 4 (avs l) none ∧ s.tm 5 = .sl 4 (avs (maps (plcI u) (l.take j))) (some h.length) ∧ s.tm 6 = .i j ∧ s.h = h ++ (.grow 69 4 j :: L) := ⟨_, rfl⟩; refine Q9 I ?_ (m := l.length) ?_
    · intro m' s hs; rw [hI] at hs; obtain ⟨tm, hp⟩ := s; dsimp only at hs; obtain ⟨j, L, rfl, hj, t0, t1, t5, t6, rfl⟩ := hs
      by_cases hlt : j < l.length
      · have hg := Y0 hlt
        have z9 : (j : Int) < l.length := by omega
        have hml : (maps (plcI u) (l.take j)).length = j := by rw [Qdf, List.length_map, List.length_take]; omega
        have hb1 : j + 1 ≤ maxLen := by simp only [maxLen]; omega
        have hb2 : (j + 1) * 56 ≤ 140737488355328 := by omega
        have fL : ∀ x : AB, (L ++ [x])[L.length]? = some x := fun x => List.getElem?_concat_length
        have fS : ∀ x y : AB, (L ++ [x]).set L.length y = L ++ [y] := fun x y => by rw [List.set_append_right _ _ (Nat.le_refl _), Nat.sub_self]; rfl
        obtain ⟨t, et⟩ : ∃ t, t = l[j] := ⟨_, rfl⟩
        have hvt := Qf2 hlt
        have hts := QdY (g := plcI u) hlt
        have hnt : t.nds ≤ n + 1 := by rw [et]; exact Nat.le_trans (ZK hlt) hn
        rw [← et] at hg hvt hts
        have hnd := T.Qlc t
        have em := T.map_eq (plcI u) t
        have ev := T.Qlr t
        by_cases k1 : t.kind = 1
        · have z1 : (t.kind == 1) = true := by simp [k1]
          rw [if_pos k1] at em ev
          have c := Qh6 u t.int hu (hv _ (hvt _ (by rw [ev]; simp)))
          repeat (first | ((first | (with_reducible (first | refine Qa fun K E hK hE => ?_ | refine Qo fun K E hK hE => ?_ | refine Qs c ?_))); simp -implicitDefEqProofs only [Qd, Qb, Qg, OpW, QR, aop, undef, AS.ev, Qc, QY, Qq, Qk, AV.Qk5, Qy, Q6, QM, Xy, QlX, QlY, QC, QA, QP, QI, QlZ, ↓reduceIte, QlQ, QlR, Nat.reduceAdd, Nat.reduceLT, Nat.reduceLeDiff, Nat.reduceEqDiff, Nat.reduceMul, QlP, Ql2, Qmb, Ql, QK, QL, Xj, Q0, QJ, aBin, Q7, aLen, YV, Ze, QO, hget, Yg, hset, hlen, happ, QlD, QlE, Ql7, Ql8, QlF, QlS, QlW, Ql5, Ql4, QlO, QlV, QlM, QlU, QS, QW, Xf, goInt, Ql9, QlL, Qmg, Qmf, QlH, rng1, Xa, Nat.reducePow, T.Qk4, T.Qk6, QE, ti3, ei44, ai44, un44, ti69, Xu, XS, zi69, t0, t1, t5, t6, z9, hg, z1, QE, hml, hb1, hb2, fL, fS, T.Qk4, T.Qk6]) | (with_reducible (first | refine Qi fun K hK => ?_ | refine Qm ?_ | refine Qv ?_ | refine Qf ?_ | refine Qw ?_)) | ((with_reducible refine hK _ ?_); clear hK) | (refine Qj rfl ?_; simp only [↓reduceIte]))
          refine XD.mk (m' := l.length - (j + 1)) (by omega) ?_
          rw [hI]
          refine ⟨j + 1, _, rfl, hlt, t0, t1, ?_, ?_, rfl⟩
          · simp only [upd, ↓reduceIte, Nat.reduceEqDiff]
            rw [hts, ZF, em]; rfl
          · simp only [upd, ↓reduceIte]
            rw [Xe (by omega)]
        have z1 : (t.kind == 1) = false := by simp [k1]
        rw [if_neg k1] at em ev
        by_cases k2 : t.kind = 2
        · have z2 : (t.kind == 2) = true := by simp [k2]
          rw [if_pos k2] at em
          have hus : t.uses = t.args := by rw [T.uses, if_pos k2]
          rw [hus] at ev
          have c := ih (by omega) t.args (by omega) (fun v hv' => hv v (hvt v (by rw [ev]; exact hv')))
          repeat (first | ((first | (with_reducible (first | refine Qa fun K E hK hE => ?_ | refine Qo fun K E hK hE => ?_ | refine Qs c ?_))); simp -implicitDefEqProofs only [Qd, Qb, Qg, OpW, QR, aop, undef, AS.ev, Qc, QY, Qq, Qk, AV.Qk5, Qy, Xs, QM, XJ, QlX, QlY, QC, QA, QP, QI, QlZ, ↓reduceIte, QlQ, QlR, Nat.reduceAdd, Nat.reduceLT, Nat.reduceLeDiff, Nat.reduceEqDiff, Nat.reduceMul, QlP, Ql2, Qmb, Ql, QK, QL, Xj, Q0, QJ, aBin, Q7, aLen, YV, Ze, QO, hget, Yg, hset, hlen, happ, QlD, QlE, Ql7, Ql8, QlF, QlS, QlW, Ql5, Ql4, Ql6, QlO, QlV, QlM, QlU, QS, QW, Xf, goInt, Ql9, QlL, Qmg, Qmf, QlH, rng1, Xa, Nat.reducePow, T.Qk4, T.Qk6, QE, ti3, ti44, ei44, ai44, un44, ti69, Xu, XN, zi69, t0, t1, t5, t6, z9, hg, z1, z2, QE, hml, hb1, hb2, fL, fS, T.Qk4, T.Qk6]) | (with_reducible (first | refine Qi fun K hK => ?_ | refine Qm ?_ | refine Qv ?_ | refine Qf ?_ | refine Qw ?_)) | ((with_reducible refine hK _ ?_); clear hK) | (refine Qj rfl ?_; simp only [↓reduceIte, QlH]))
          refine XD.mk (m' := l.length - (j + 1)) (by omega) ?_
          rw [hI]
          refine ⟨j + 1, _, rfl, hlt, t0, t1, ?_, ?_, rfl⟩
          · simp only [upd, ↓reduceIte, Nat.reduceEqDiff]
            rw [hts, ZF, em]; rfl
          · simp only [upd, ↓reduceIte]
            rw [Xe (by omega)]
        have z2 : (t.kind == 2) = false := by simp [k2]
        rw [if_neg k2] at em
        repeat (first | ((first | (with_reducible (first | refine Qa fun K E hK hE => ?_ | refine Qo fun K E hK hE => ?_))); simp -implicitDefEqProofs only [Qd, Qb, Qg, OpW, aop, undef, AS.ev, Qc, QY, Qq, Qk, AV.Qk5, Qy, QM, QlX, QlY, QC, QA, QP, QI, QlZ, ↓reduceIte, QlQ, QlR, Nat.reduceAdd, Nat.reduceLT, Nat.reduceLeDiff, Nat.reduceEqDiff, Nat.reduceMul, QlP, Ql2, Qmb, Ql, QK, QL, Xj, Q0, QJ, aBin, Q7, aLen, YV, Ze, QO, hget, Yg, hset, hlen, happ, QlD, QlE, Ql7, Ql8, QlF, QlS, QlW, Ql5, QS, QW, Xf, goInt, Ql9, QlL, Qmg, Qmf, rng1, Xa, Nat.reducePow, T.Qk4, T.Qk6, QE, ti3, ei44, ai44, un44, ti69, Xu, zi69, t1, t5, t6, z9, hg, z1, z2, QE, hml, hb1, hb2, fL, fS, T.Qk4, T.Qk6]) | (with_reducible (first | refine Qi fun K hK => ?_ | refine Qm ?_ | refine Qv ?_ | refine Qf ?_ | refine Qw ?_)) | ((with_reducible refine hK _ ?_); clear hK) | (refine Qj rfl ?_; simp only [↓reduceIte, QlH]))
        refine XD.mk (m' := l.length - (j + 1)) (by omega) ?_
        rw [hI]
        refine ⟨j + 1, _, rfl, hlt, t0, t1, ?_, ?_, rfl⟩
        · simp only [upd, ↓reduceIte, Nat.reduceEqDiff]
          rw [hts, ZF, em]; rfl
        · simp only [upd, ↓reduceIte]
          rw [Xe (by omega)]
      · have z9 : ¬ (j : Int) < l.length := by omega
        have hjl : j = l.length := by omega
        repeat (first | (((with_reducible refine Qa fun K E hK hE => ?_)); simp -implicitDefEqProofs only [Qd, Qb, Qg, OpW, aop, AS.ev, Qc, Qk, ↓reduceIte, Nat.reduceLT, Nat.reduceEqDiff, aBin, aLen, QlF, QW, goInt, Qma, QE, un44, t1, t5, t6, z9, QE]) | (with_reducible (first | refine Qi fun K hK => ?_ | refine Qn ?_ | refine Q2 ?_ | refine Qf ?_ | refine QU ?_ | refine QV ?_)) | ((with_reducible refine hK _ ?_); clear hK) | (clear hK; (with_reducible refine hK _ ?_); clear hK) | (refine Qj rfl ?_; simp only [↓reduceIte, QlH]))
        simp only [QN, Qp, Qu, upd, ↓reduceIte, QlJ, QlN]; first | refine Qe (htake _ _) (.tok (Qac _ _)) ⟨by rw [hjl, List.take_length], rfl⟩ | refine Qe List.take_length (.tok (Qac _ _)) ⟨by rw [hjl, List.take_length], rfl⟩
    · rw [hI]
      exact ⟨0, [], by omega, Nat.zero_le _, rfl, rfl, rfl, rfl, rfl⟩
theorem QbS (l : List G) (u : List Int) (hu : u.length ≤ 1000000) (hv : ∀ v ∈ X9 (YB l), v ∈ u) (hn : gN l ≤ 1000000) : Pure Tryz.prog 51 [.sl 1 (ints u) none, .sl 2 (vs G.atom l) none] (.sl 2 (vs G.atom (l.map (G.mapV (plcI u)))) none) := by
  intro h
  have hll := Qa4 l
  refine Qh Tryz.func51 rfl Tryz.call51 Tryz.ntmps51 (congrArg Array.toList Tryz.results51) (by simp) ?_
  repeat (first | (((with_reducible refine Qa fun K E hK hE => ?_)); simp -implicitDefEqProofs only [Qd, Qb, Qg, OpW, aop, AS.ev, Qc, Qq, Xq, Nat.reduceLT]) | (with_reducible (first | refine Qi fun K hK => ?_ | refine Qm ?_)) | ((with_reducible refine hK _ ?_); clear hK))
  refine Y2 5 66 2 rfl ?_
  simp -implicitDefEqProofs only [Xk]
  obtain ⟨I, hI⟩ : ∃ I : Nat → AS → Prop, I = fun m' s => ∃ j : Nat, m' = l.length - j ∧ j ≤ l.length ∧ s.tm 0 = .sl 1 (ints u) none ∧ s.tm 1 = .sl 2 (vs G.atom l) none ∧ s.tm 5 = .sl 2 (vs G.atom ((l.take j).map (G.mapV (plcI u)))) (some h.length) ∧ s.tm 6 = .i j ∧ s.h = h ++ [.grow 66 2 j] := ⟨_, rfl⟩; refine Q9 I ?_ (m := l.length) ?_
  · intro m' s hs; rw [hI] at hs; obtain ⟨tm, hp⟩ := s; dsimp only at hs; obtain ⟨j, rfl, hj, t0, t1, t5, t6, rfl⟩ := hs
    by_cases hlt : j < l.length
    · have hc := QbC u hu 1000000 (Nat.le_refl _) l[j].args (Nat.le_trans (QfU hlt) hn) fun v hv' => hv v (Qdn hlt v hv')
      have hml : ((l.take j).map (G.mapV (plcI u))).length = j := by rw [List.length_map, List.length_take]; omega
      have hb1 : j + 1 ≤ maxLen := by simp only [maxLen]; omega
      have hb2 : (j + 1) * 40 ≤ 140737488355328 := by omega
      repeat (first | ((first | (with_reducible (first | refine Qa fun K E hK hE => ?_ | refine Qo fun K E hK hE => ?_ | refine QQ hc ?_)) | (refine XH (id := 5) [(0, 0), (1, 0), (2, 0), (3, 0), (4, 0), (5, 0), (6, 0), (7, 0), (8, 0), (9, 0), (10, 0), (11, 0), (12, 1), (13, 0), (14, 0), (15, 2), (16, 0)] mixed (by kernel_rfl) fun K hK => ?_)); simp -implicitDefEqProofs only [Xk, Xd, Xw, Qd, Qb, Qg, OpW, aop, AS.ev, Qc, Qq, Qk, AV.Qk5, Qy, Q6, Xs, QM, QlX, QlY, QA, QP, QI, QlZ, ↓reduceIte, QlQ, QlR, Nat.reduceAdd, Nat.reduceLT, Nat.reduceLeDiff, Nat.reduceEqDiff, Nat.reduceMul, QlP, Ql2, Qmb, Ql, QK, QL, QJ, aBin, Zp, ZB, Q7, aLen, YV, Ze, QO, Yg, QlD, QlE, Ql7, QlF, QlG, QlS, QlW, Ql5, Ql4, Ql6, QlO, QlV, QlM, QlU, QW, Xf, goInt, Ql9, QlL, Qmg, Qmf, Qmr, rng1, Xa, Nat.reducePow, ti9, ei22, ai22, un22, ti44, YQ, YM, zi66, sp66, t0, t1, t5, t6, hlt, QG, YN G.atom hlt, XB, hml, hb1, hb2]) | (with_reducible (first | refine Qi fun K hK => ?_ | refine Qm ?_ | refine Qv ?_ | refine Qf ?_ | refine Qw ?_)) | ((with_reducible refine hK _ ?_); clear hK) | (refine Qj rfl ?_; simp only [↓reduceIte]))
      refine XD.mk (m' := l.length - (j + 1)) (by omega) ?_
      rw [hI]
      refine ⟨j + 1, rfl, hlt, t0, t1, ?_, ?_, rfl⟩
      · simp only [upd, ↓reduceIte, Nat.reduceEqDiff]
        rw [List.take_succ_eq_append_getElem hlt, List.map_append, Qa8]
        rfl
      · simp only [upd, ↓reduceIte]
        rw [Xe (by omega)]
    · have hjl : j = l.length := by omega
      repeat (first | (((with_reducible refine Qa fun K E hK hE => ?_)); simp -implicitDefEqProofs only [Qd, Qb, Qg, OpW, aop, AS.ev, Qc, Qk, ↓reduceIte, Nat.reduceLT, Nat.reduceEqDiff, aBin, aLen, QlF, QW, goInt, Qma, Qmr, un22, t1, t5, t6, hlt, QG]) | (with_reducible (first | refine Qi fun K hK => ?_ | refine Qn ?_ | refine Q2 ?_ | refine Qf ?_ | refine QU ?_ | refine QV ?_)) | ((with_reducible refine hK _ ?_); clear hK) | (clear hK; (with_reducible refine hK _ ?_); clear hK) | (refine Qj rfl ?_; simp only [↓reduceIte, QlH]))
      simp only [QN, Qp, Qu, upd, ↓reduceIte, QlJ, QlN]; first | refine Qe (htake _ _) (.tok (Qa7 G.atom _ (ZX _) _)) ⟨by rw [hjl, List.take_length], rfl⟩ | refine Qe List.take_length (.tok (Qa7 G.atom _ (ZX _) _)) ⟨by rw [hjl, List.take_length], rfl⟩
  · rw [hI]
    exact ⟨0, by omega, Nat.zero_le _, rfl, rfl, rfl, rfl, rfl⟩
theorem QaO (l : List G) (u : List Int) (hu : u.length ≤ 1000000) (hv : ∀ v ∈ X9 (YB l), v ∈ u) (hn : gN l ≤ 1000000) : Pure Tryz.prog 25 [.sl 1 (ints u) none, .sl 3 (vs G.goal l) none] (.sl 3 (vs G.goal (l.map (G.mapV (plcI u)))) none) := by
  intro h
  have hll := Qa4 l
  refine Qh Tryz.func25 rfl Tryz.call25 Tryz.ntmps25 (congrArg Array.toList Tryz.results25) (by simp) ?_
  repeat (first | (((with_reducible refine Qa fun K E hK hE => ?_)); simp -implicitDefEqProofs only [Qd, Qb, Qg, OpW, aop, AS.ev, Qc, Qq, Xq, Nat.reduceLT]) | (with_reducible (first | refine Qi fun K hK => ?_ | refine Qm ?_)) | ((with_reducible refine hK _ ?_); clear hK))
  refine Y2 5 53 3 rfl ?_
  simp -implicitDefEqProofs only [Xk]
  obtain ⟨I, hI⟩ : ∃ I : Nat → AS → Prop, I = fun m' s => ∃ j : Nat, m' = l.length - j ∧ j ≤ l.length ∧ s.tm 0 = .sl 1 (ints u) none ∧ s.tm 1 = .sl 3 (vs G.goal l) none ∧ s.tm 5 = .sl 3 (vs G.goal ((l.take j).map (G.mapV (plcI u)))) (some h.length) ∧ s.tm 6 = .i j ∧ s.h = h ++ [.grow 53 3 j] := ⟨_, rfl⟩; refine Q9 I ?_ (m := l.length) ?_
  · intro m' s hs; rw [hI] at hs; obtain ⟨tm, hp⟩ := s; dsimp only at hs; obtain ⟨j, rfl, hj, t0, t1, t5, t6, rfl⟩ := hs
    by_cases hlt : j < l.length
    · have hc := QbC u hu 1000000 (Nat.le_refl _) l[j].args (Nat.le_trans (QfU hlt) hn) fun v hv' => hv v (Qdn hlt v hv')
      have hml : ((l.take j).map (G.mapV (plcI u))).length = j := by rw [List.length_map, List.length_take]; omega
      have hb1 : j + 1 ≤ maxLen := by simp only [maxLen]; omega
      have hb2 : (j + 1) * 48 ≤ 140737488355328 := by omega
      repeat (first | ((first | (with_reducible (first | refine Qa fun K E hK hE => ?_ | refine Qo fun K E hK hE => ?_ | refine QQ hc ?_)) | (refine XH (id := 5) [(0, 0), (1, 0), (2, 0), (3, 0), (4, 0), (5, 0), (6, 0), (7, 0), (8, 0), (9, 0), (10, 0), (11, 0), (12, 0), (13, 0), (14, 0), (15, 0), (16, 0), (17, 1), (18, 0), (19, 0), (20, 2), (21, 0)] mixed (by kernel_rfl) fun K hK => ?_)); simp -implicitDefEqProofs only [Xk, Xd, Xw, Qd, Qb, Qg, OpW, aop, AS.ev, Qc, Qq, Qk, AV.Qk5, Qy, Q6, Xs, QM, QlX, QlY, QC, QA, QP, QI, QlZ, ↓reduceIte, QlQ, QlR, Nat.reduceAdd, Nat.reduceLT, Nat.reduceLeDiff, Nat.reduceEqDiff, Nat.reduceMul, QlP, Ql2, Qmb, Ql, QK, QL, QJ, aBin, Zp, ZB, Q7, aLen, YV, Ze, QO, Yg, QlD, QlE, Ql7, QlF, QlG, QlS, QlW, Ql5, Ql4, Ql6, QlO, QlV, QlM, QlU, QW, Xf, goInt, Ql9, QlL, Qmg, Qmf, Qmr, rng1, Xa, Nat.reducePow, ti3, ti9, ei23, ai23, un23, ti44, XG, Yy, Ya, zi53, sp53, t0, t1, t5, t6, hlt, QG, YN G.goal hlt, Q3, hml, hb1, hb2]) | (with_reducible (first | refine Qi fun K hK => ?_ | refine Qm ?_ | refine Qv ?_ | refine Qf ?_ | refine Qw ?_)) | ((with_reducible refine hK _ ?_); clear hK) | (refine Qj rfl ?_; simp only [↓reduceIte]))
      refine XD.mk (m' := l.length - (j + 1)) (by omega) ?_
      rw [hI]
      refine ⟨j + 1, rfl, hlt, t0, t1, ?_, ?_, rfl⟩
      · simp only [upd, ↓reduceIte, Nat.reduceEqDiff]
        rw [List.take_succ_eq_append_getElem hlt, List.map_append, Qa8]
        rfl
      · simp only [upd, ↓reduceIte]
        rw [Xe (by omega)]
    · have hjl : j = l.length := by omega
      repeat (first | (((with_reducible refine Qa fun K E hK hE => ?_)); simp -implicitDefEqProofs only [Qd, Qb, Qg, OpW, aop, AS.ev, Qc, Qk, ↓reduceIte, Nat.reduceLT, Nat.reduceEqDiff, aBin, aLen, QlF, QW, goInt, Qma, Qmr, un23, t1, t5, t6, hlt, QG]) | (with_reducible (first | refine Qi fun K hK => ?_ | refine Qn ?_ | refine Q2 ?_ | refine Qf ?_ | refine QU ?_ | refine QV ?_)) | ((with_reducible refine hK _ ?_); clear hK) | (clear hK; (with_reducible refine hK _ ?_); clear hK) | (refine Qj rfl ?_; simp only [↓reduceIte, QlH]))
      simp only [QN, Qp, Qu, upd, ↓reduceIte, QlJ, QlN]; first | refine Qe (htake _ _) (.tok (Qa7 G.goal _ (Qad _) _)) ⟨by rw [hjl, List.take_length], rfl⟩ | refine Qe List.take_length (.tok (Qa7 G.goal _ (Qad _) _)) ⟨by rw [hjl, List.take_length], rfl⟩
  · rw [hI]
    exact ⟨0, by omega, Nat.zero_le _, rfl, rfl, rfl, rfl, rfl⟩
theorem QjY (r : Rl) : numR r = ⟨r.name, r.keep.map (G.mapV (plcI r.seen)), r.remove.map (G.mapV (plcI r.seen)), r.guard.map (G.mapV (plcI r.seen)), r.body.map (G.mapV (plcI r.seen)), (r.seen.length : Nat)⟩ := Qhh r
theorem QbB (r : Rl) (hs : r.small) : Pure Tryz.prog 14 [r.av] (numR r).av := by
  intro h
  have hsm := hs
  obtain ⟨⟨l1, l2, l3, l4⟩, n1, n2, n3, n4⟩ := hsm
  have g := hs.gNs
  have ht := hs.terms
  have lt := XK (Zq r)
  have hseen : r.seen.length ≤ 1200 := by
    have e : ded [] (X9 (Zq r)) = r.seen := rfl
    have h1 := Zj [] (X9 (Zq r))
    rw [e] at h1
    have h2 := ZQ (Zq r)
    simp only [QlR] at h1
    omega
  have cT := Qik r (by omega) (by omega) (by omega) (by omega) (by omega)
  have cV : Pure Tryz.prog 20 [.sl 4 (avs (Zq r)) none] (.sl 1 (ints r.seen) none) := Qd7 (Zq r) (by omega)
  have hin : ∀ v, (v ∈ X9 (YB r.keep) ∨ v ∈ X9 (YB r.remove) ∨ v ∈ X9 (YB r.guard) ∨ v ∈ X9 (YB r.body)) → v ∈ r.seen := fun v hv => by
    rw [QjP, Zq]
    simp only [Zw, List.mem_append]; exact hv
  have c1 := QbS r.keep r.seen (by omega) (fun v hv => hin v (.inl hv)) g.1
  have c2 := QbS r.remove r.seen (by omega) (fun v hv => hin v (.inr (.inl hv))) g.2.1
  have c3 := QaO r.guard r.seen (by omega) (fun v hv => hin v (.inr (.inr (.inl hv)))) g.2.2.1
  have c4 := QaO r.body r.seen (by omega) (fun v hv => hin v (.inr (.inr (.inr hv)))) g.2.2.2
  refine Qh Tryz.func14 rfl Tryz.call14 Tryz.ntmps14 (congrArg Array.toList Tryz.results14) (by simp) ?_
  iterate 4 (try (first | ((first | (with_reducible (first | refine Qa fun K E hK hE => ?_ | refine Qs cT ?_))); simp -implicitDefEqProofs only [Qd, Qb, Qg, OpW, QR, aop, undef, AS.ev, Qc, Qk, QD, QlK, AV.Qk5, Qy, QlX, QlY, QC, QA, QP, QI, QlZ, ↓reduceIte, QlQ, QlR, Nat.reduceAdd, Nat.reduceLT, Nat.reduceEqDiff, QlP, Qmb, QK, QL, QO, hlen, happ, QlD, QlF, QlS, QlW, Ql5, Ql4, ti25, zi25, Rl.cells, Rl.isAgg]) | ((with_reducible refine hK _ ?_); clear hK)))
  repeat (first | ((first | (with_reducible (first | refine Qs cV ?_ | refine QQ c1 ?_ | refine QQ c2 ?_ | refine QQ c3 ?_ | refine QQ c4 ?_)) | (refine QX (id := 2) [(0, 0), (1, 0), (2, 0), (3, 0), (4, 0), (5, 1), (6, 0), (7, 0), (8, 0), (9, 1), (10, 0), (11, 0), (12, 0), (13, 1), (14, 0), (15, 0), (16, 0), (17, 1), (18, 0), (19, 0), (20, 0), (21, 2)] mixed (by kernel_rfl) fun K hK => ?_)); simp -implicitDefEqProofs only [Xk, Xd, Xw, Qd, Qb, Qg, OpW, QR, aop, undef, AS.ev, Qc, QY, Qk, QD, AV.Qk5, Qy, Q6, Xs, QM, QlX, QlY, QC, QA, QP, QI, QlZ, ↓reduceIte, QlQ, QlR, Nat.reduceAdd, Nat.reduceLT, Nat.reduceLeDiff, Nat.reduceEqDiff, QlP, Ql2, Qmb, Ql, QK, QL, Xj, Q0, Zp, ZB, aLen, QO, hget, hset, QlD, QlE, Ql7, Ql8, QlF, QlG, QlS, QlW, Ql5, Ql4, Ql6, QlO, QlV, QlM, QlU, goInt, Xg, ti9, ti22, ti23, ti25, XT, X7, X6, XR, XP, zi25, sp25, un42, Rl.cells, Xg]) | (with_reducible refine Qn ?_) | ((with_reducible refine hK _ ?_); clear hK))
  simp -implicitDefEqProofs only [Qk, Qy, QM, ↓reduceIte, QlQ, QlR, Nat.reduceAdd, Nat.reduceEqDiff, QlP, Qmb, QK, QL, hget, QlD, QlE, QlJ, ti25, QN, Qp, Qu, QlN]
  exact Qe (htake _ _) (.keep (QhG _ ⟨r.name, r.keep.map (G.mapV (plcI r.seen)), r.remove.map (G.mapV (plcI r.seen)), r.guard.map (G.mapV (plcI r.seen)), r.body.map (G.mapV (plcI r.seen)), (r.seen.length : Nat)⟩)) ⟨by rw [QjY]; rfl, rfl⟩
end Go.Proofs.YtenheconhibonaaGreatDoor.Ab
set_option maxRecDepth 4000
namespace Go.Proofs.YtenheconhibonaaGreatDoor.Ab
open Go.Proofs
def badR (x : Rl) : Bool := !x.keep.all Q8 || (!x.remove.all Q8 || (!x.guard.all Q4 || (!x.body.all Q4 || (decide (x.keep.length + x.remove.length = 0) || (decide (4 < x.keep.length + x.remove.length) || (decide (12 < x.guard.length) || (decide (12 < x.body.length) || (!Yr x.name && !Yv x.name))))))))
theorem Qiq (x : Rl) : Ys x = (!badR x && !Qai x.body) := by
  have e1 : decide (0 < x.keep.length + x.remove.length ∧ x.keep.length + x.remove.length ≤ 4) = (!decide (x.keep.length + x.remove.length = 0) && !decide (4 < x.keep.length + x.remove.length)) := by
    rw [Bool.eq_iff_iff]; simp only [decide_eq_true_eq, Bool.and_eq_true, Bool.not_eq_true', decide_eq_false_iff_not]; omega
  have e2 : decide (x.guard.length ≤ 12 ∧ x.body.length ≤ 12) = (!decide (12 < x.guard.length) && !decide (12 < x.body.length)) := by
    rw [Bool.eq_iff_iff]; simp only [decide_eq_true_eq, Bool.and_eq_true, Bool.not_eq_true', decide_eq_false_iff_not]; omega
  rw [Ys, preR, badR, e1, e2]
  cases x.keep.all Q8 <;> cases x.remove.all Q8 <;> cases x.guard.all Q4 <;> cases x.body.all Q4 <;> cases Qai x.body <;> cases Yr x.name <;> cases Yv x.name <;> simp [Bool.and_assoc]
def jAs (l : List G) : ByteArray := if l.all Q8 = true then jA l else { data := #[] }
def jGs (l : List G) : ByteArray := if l.all Q4 = true then jG l else { data := #[] }
theorem QcT (r : Rl) (hs : r.small) (ho : r.ok) : Pure Tryz.prog 11 [r.av] (.v (.string (Z9 r))) := by
  intro h
  have cn := QbB r hs
  have hx := Qgd hs
  have s1 : r.seen.length ≤ 1200 := by
    have e : ded [] (X9 (Zq r)) = r.seen := rfl
    have h1 := Zj [] (X9 (Zq r))
    rw [e] at h1
    have h2 := ZQ (Zq r)
    have h3 := hs.terms
    simp only [QlR] at h1
    omega
  have hxo := QkM ho (by omega)
  rw [Z9]
  obtain ⟨x, ex⟩ : ∃ x, x = numR r := ⟨_, rfl⟩
  rw [← ex] at cn hx hxo ⊢
  obtain ⟨⟨l1, l2, l3, l4⟩, n1, n2, n3, n4⟩ := hx
  obtain ⟨o0, _, _, _, _, o1, o2, o3, o4⟩ := hxo
  have c1 : Pure Tryz.prog 42 [.sl 2 (vs G.atom x.keep) none] (.tup [.v (.string (jAs x.keep)), .b (x.keep.all Q8)]) := Qca x.keep (by omega) (by omega) o1
  have c2 : Pure Tryz.prog 42 [.sl 2 (vs G.atom x.remove) none] (.tup [.v (.string (jAs x.remove)), .b (x.remove.all Q8)]) := Qca x.remove (by omega) (by omega) o2
  have c3 : Pure Tryz.prog 43 [.sl 3 (vs G.goal x.guard) none] (.tup [.v (.string (jGs x.guard)), .b (x.guard.all Q4)]) := QaL x.guard (by omega) (by omega) o3
  have c4 : Pure Tryz.prog 43 [.sl 3 (vs G.goal x.body) none] (.tup [.v (.string (jGs x.body)), .b (x.body.all Q4)]) := QaL x.body (by omega) (by omega) o4
  have cr : Pure Tryz.prog 44 [.v (.string x.name)] (.b (Yv x.name)) := ZW x.name (by simp only [maxLen]; omega)
  have hw : IntKind.i64.wrap ((x.keep.length : Int) + x.remove.length) = ((x.keep.length + x.remove.length : Nat) : Int) := by rw [Yh (by omega)]; omega
  obtain ⟨nn, en⟩ : ∃ n : Nat, n = x.keep.length + x.remove.length := ⟨_, rfl⟩
  rw [← en] at hw
  rw [Qiq]
  obtain ⟨V, eV⟩ : ∃ V, V = (if (!badR x && !Qai x.body) = true then ZV (Qcx x) else ({ data := #[] } : ByteArray)) := ⟨_, rfl⟩
  rw [← eV]
  refine Qh Tryz.func11 rfl Tryz.call11 Tryz.ntmps11 (congrArg Array.toList Tryz.results11) (by simp) ?_
  iterate 20 (try (first | ((first | (with_reducible (first | refine Qa fun K E hK hE => ?_ | refine Qs cn ?_ | refine Qs c1 ?_ | refine Qs c2 ?_ | refine Qs c3 ?_ | refine Qs c4 ?_))); simp -implicitDefEqProofs only [Qd, Qb, Qg, OpW, QR, aop, undef, AS.ev, Qc, QY, QF, Qk, QD, QlK, AV.Qk5, QlX, QlY, QC, QA, QI, QlZ, ↓reduceIte, QlQ, QlR, Nat.reduceAdd, Nat.reduceLT, Nat.reduceEqDiff, QlP, Qmb, Ql, QK, QL, Xj, Q0, aBin, Yt, aLen, QO, Yg, QlD, QlE, Ql7, QlF, QlS, QlW, Xf, goInt, ti22, un22, ti23, ti25, X7, X6, XR, XP, Rl.cells, Rl.isAgg, QG, hw]) | (with_reducible refine Qi fun K hK => ?_) | ((with_reducible refine hK _ ?_); clear hK)))
  refine Xv (fun s => s.tm 90 = .b (badR x) ∧ s.tm 1 = .ptr h.length 0 0 ∧ s.tm 4 = .v (.string (jAs x.keep)) ∧ s.tm 6 = .v (.string (jAs x.remove)) ∧ s.tm 8 = .v (.string (jGs x.guard)) ∧ s.tm 10 = .v (.string (jGs x.body)) ∧ s.h = h ++ [.cells 25 6 [x.av]]) ?_ ?_
  rotate_left
  · skip
    cases a0 : x.keep.all Q8
    · skip
      have R : badR x = true := by
        simp [badR, a0]
      (with_reducible refine Qo fun K E hK hE => ?_)
      (try simp only [Qme]); refine Qz 6 (fun K1 hK1 => ?_); simp -implicitDefEqProofs only [Qd, Qb, Qg, OpW, aop, undef, AS.ev, Qc, Qr, Qk, Ql0, Ql1, ↓reduceIte, Nat.reduceLT, Nat.reduceEqDiff, QlD, QlE, QlF, QlI, QlG, QlO, QlV, Xb, beq_false]; refine hK1 _ ?_; clear hK1
      (try simp only [QlM, QlU]); refine Qz 8 (fun K1 hK1 => ?_); simp -implicitDefEqProofs only [Qd, Qb, Qg, OpW, aop, undef, AS.ev, Qc, Qr, Qk, Ql0, ↓reduceIte, Nat.reduceLT, Nat.reduceEqDiff, QlD, QlE, QlI, QlG, QlO, QlV, beq_false]; refine hK1 _ ?_; clear hK1
      (try simp only [QlM, QlU]); refine Qz 8 (fun K1 hK1 => ?_); simp -implicitDefEqProofs only [Qd, Qb, Qg, OpW, aop, undef, AS.ev, Qc, Qr, Qk, Ql0, ↓reduceIte, Nat.reduceLT, Nat.reduceEqDiff, QlD, QlE, QlI, QlG, QlO, QlV, beq_false]; refine hK1 _ ?_; clear hK1
      (try simp only [QlM, QlU]); refine Qz 7 (fun K1 hK1 => ?_); simp -implicitDefEqProofs only [Qd, Qb, Qg, OpW, aop, undef, AS.ev, Qc, Qr, Qk, Ql0, ↓reduceIte, Nat.reduceLT, Nat.reduceEqDiff, QlD, QlE, QlI, QlG, QlO, QlV, beq_false]; refine hK1 _ ?_; clear hK1
      (try simp only [QlM, QlU]); refine Qz 5 (fun K1 hK1 => ?_); simp -implicitDefEqProofs only [Qd, Qb, Qg, OpW, aop, undef, AS.ev, Qc, Qr, Qk, Ql0, ↓reduceIte, Nat.reduceLT, Nat.reduceEqDiff, QlD, QlE, QlI, QlG, QlO, QlV, beq_false]; refine hK1 _ ?_; clear hK1
      (try simp only [QlM, QlU]); refine Qz 9 (fun K1 hK1 => ?_); simp -implicitDefEqProofs only [Qd, Qb, Qg, OpW, aop, undef, AS.ev, Qc, Qk, Ql0, ↓reduceIte, Nat.reduceLT, Nat.reduceEqDiff, QlD, QlE, QlI, QlG, QlO, QlV, beq_false]; (repeat ((((with_reducible refine Qa fun K E hK hE => ?_)); simp -implicitDefEqProofs only [Qd, Qb, Qg, OpW, QR, aop, undef, YS, Qmj, Qmk, Zh, Yo, YF, AS.ev, Qc, QY, Qq, Qr, QF, Xq, YG, Xt, Xz, Xn, YJ, Qk, QD, QlK, Ql3, AV.Qk5, Qy, Q6, Xs, XY, Xh, XU, Yp, Yk, X0, QM, Xy, XJ, X4, XQ, X2, Yj, Yi, XZ, QlX, QlY, QC, XI, QA, QP, X1, Xc, Xp, Xi, QI, X3, Xm, XX, Yn, Ym, XW, QlZ, Qmm, Qmn, Ql0, Ql1, ↓reduceIte, QlQ, QlR, Nat.reduceAdd, Nat.reduceLT, Nat.reduceLeDiff, Nat.reduceEqDiff, Nat.reduceSub, Nat.reduceMul, QlP, Ql2, Qmc, Qmd, Qmb, Xo, Xr, Ql, QK, QL, Xj, Q0, QJ, aBin, Yt, aLen, QO, hget, Yg, hset, hlen, happ, QlD, QlE, Qmt, Ql7, Ql8, QlF, Qmi, QlI, Qmh, QlJ, Qme, QlG, QlS, QlW, Ql5, Ql4, Ql6, QlO, QlV, QlM, QlU, QS, XA, Q1, Xf, Xb, QZ, Yc, Za, goInt, Ql9, Qma, QlL, Qmo, Qmg, Int.toNat_zero, Int.toNat_one, Qmf, Qmr, Qms, Qmp, QlH, Qml, beq_true, beq_false, rng0, rng1, rng2, rng3, rng4, rng5, rng6, rng7, rng8, Xa, Nat.reducePow, Nat.zero_le, Nat.zero_mul, T.Qk4, T.Qk6, QE, Xg, ti0, zi0, ti3, zi3, un3, ti4, zi4, un4, ti9, ei9, zi9, un9, ti22, ei22, ai22, zi22, un22, ti23, ei23, ai23, zi23, un23, ti25, XT, X7, X6, XR, XP, Zo, zi25, sp25, ti53, XG, Yy, Ya, zi53, sp53, ti66, YQ, YM, zi66, sp66, ti86, Qmq, Int.sub_zero, Zz, Q5, Rl.cells, Rl.isAgg, QG, a0]))); refine hK1 _ ?_; clear hK1
      (try simp only [QlM, QlU])
      simp -implicitDefEqProofs only [Qd, Qb, Qg, OpW, aop, undef, AS.ev, Qc, Qr, Qk, Ql0, ↓reduceIte, Nat.reduceLT, Nat.reduceEqDiff, QlD, QlE, QlI, QlG, beq_false]
      repeat (first | (with_reducible refine Qf ?_) | ((with_reducible refine hK _ ?_); clear hK))
      rw [R]
      exact ⟨rfl, rfl, rfl, rfl, rfl, rfl, rfl⟩
    cases a1 : x.remove.all Q8
    · skip
      have R : badR x = true := by
        simp [badR, a0, a1]
      (with_reducible refine Qo fun K E hK hE => ?_)
      (try simp only [Qme]); refine Qz 6 (fun K1 hK1 => ?_); simp -implicitDefEqProofs only [Qd, Qb, Qg, OpW, aop, AS.ev, Qc, Qk, Ql0, Ql1, ↓reduceIte, Nat.reduceLT, Nat.reduceEqDiff, QlD, QlE, QlF, QlI, QlG, QlO, QlV, Xb, QlL, QlH]; refine hK1 _ ?_; clear hK1
      (try simp only [QlM, QlU]); refine Qz 8 (fun K1 hK1 => ?_); simp -implicitDefEqProofs only [Qd, Qb, Qg, OpW, aop, undef, AS.ev, Qc, Qr, Qk, Ql0, ↓reduceIte, Nat.reduceLT, Nat.reduceEqDiff, QlD, QlE, QlI, QlG, QlO, QlV, beq_false]; refine hK1 _ ?_; clear hK1
      (try simp only [QlM, QlU]); refine Qz 8 (fun K1 hK1 => ?_); simp -implicitDefEqProofs only [Qd, Qb, Qg, OpW, aop, undef, AS.ev, Qc, Qr, Qk, Ql0, ↓reduceIte, Nat.reduceLT, Nat.reduceEqDiff, QlD, QlE, QlI, QlG, QlO, QlV, beq_false]; refine hK1 _ ?_; clear hK1
      (try simp only [QlM, QlU]); refine Qz 7 (fun K1 hK1 => ?_); simp -implicitDefEqProofs only [Qd, Qb, Qg, OpW, aop, undef, AS.ev, Qc, Qr, Qk, Ql0, ↓reduceIte, Nat.reduceLT, Nat.reduceEqDiff, QlD, QlE, QlI, QlG, QlO, QlV, beq_false]; refine hK1 _ ?_; clear hK1
      (try simp only [QlM, QlU]); refine Qz 5 (fun K1 hK1 => ?_); simp -implicitDefEqProofs only [Qd, Qb, Qg, OpW, aop, undef, AS.ev, Qc, Qr, Qk, Ql0, ↓reduceIte, Nat.reduceLT, Nat.reduceEqDiff, QlD, QlE, QlI, QlG, QlO, QlV, beq_false]; refine hK1 _ ?_; clear hK1
      (try simp only [QlM, QlU]); refine Qz 9 (fun K1 hK1 => ?_); simp -implicitDefEqProofs only [Qd, Qb, Qg, OpW, aop, undef, AS.ev, Qc, Qk, Ql0, ↓reduceIte, Nat.reduceLT, Nat.reduceEqDiff, QlD, QlE, QlI, QlG, QlO, QlV, beq_false]; (repeat ((((with_reducible refine Qa fun K E hK hE => ?_)); simp -implicitDefEqProofs only [Qd, Qb, Qg, OpW, QR, aop, undef, YS, Qmj, Qmk, Zh, Yo, YF, AS.ev, Qc, QY, Qq, Qr, QF, Xq, YG, Xt, Xz, Xn, YJ, Qk, QD, QlK, Ql3, AV.Qk5, Qy, Q6, Xs, XY, Xh, XU, Yp, Yk, X0, QM, Xy, XJ, X4, XQ, X2, Yj, Yi, XZ, QlX, QlY, QC, XI, QA, QP, X1, Xc, Xp, Xi, QI, X3, Xm, XX, Yn, Ym, XW, QlZ, Qmm, Qmn, Ql0, Ql1, ↓reduceIte, QlQ, QlR, Nat.reduceAdd, Nat.reduceLT, Nat.reduceLeDiff, Nat.reduceEqDiff, Nat.reduceSub, Nat.reduceMul, QlP, Ql2, Qmc, Qmd, Qmb, Xo, Xr, Ql, QK, QL, Xj, Q0, QJ, aBin, Yt, aLen, QO, hget, Yg, hset, hlen, happ, QlD, QlE, Qmt, Ql7, Ql8, QlF, Qmi, QlI, Qmh, QlJ, Qme, QlG, QlS, QlW, Ql5, Ql4, Ql6, QlO, QlV, QlM, QlU, QS, XA, Q1, Xf, Xb, QZ, Yc, Za, goInt, Ql9, Qma, QlL, Qmo, Qmg, Int.toNat_zero, Int.toNat_one, Qmf, Qmr, Qms, Qmp, QlH, Qml, beq_true, beq_false, rng0, rng1, rng2, rng3, rng4, rng5, rng6, rng7, rng8, Xa, Nat.reducePow, Nat.zero_le, Nat.zero_mul, T.Qk4, T.Qk6, QE, Xg, ti0, zi0, ti3, zi3, un3, ti4, zi4, un4, ti9, ei9, zi9, un9, ti22, ei22, ai22, zi22, un22, ti23, ei23, ai23, zi23, un23, ti25, XT, X7, X6, XR, XP, Zo, zi25, sp25, ti53, XG, Yy, Ya, zi53, sp53, ti66, YQ, YM, zi66, sp66, ti86, Qmq, Int.sub_zero, Zz, Q5, Rl.cells, Rl.isAgg, QG, a0, a1]))); refine hK1 _ ?_; clear hK1
      (try simp only [QlM, QlU])
      simp -implicitDefEqProofs only [Qd, Qb, Qg, OpW, aop, undef, AS.ev, Qc, Qr, Qk, Ql0, ↓reduceIte, Nat.reduceLT, Nat.reduceEqDiff, QlD, QlE, QlI, QlG, beq_false]
      repeat (first | (with_reducible refine Qf ?_) | ((with_reducible refine hK _ ?_); clear hK))
      rw [R]
      exact ⟨rfl, rfl, rfl, rfl, rfl, rfl, rfl⟩
    cases a2 : x.guard.all Q4
    · skip
      have R : badR x = true := by
        simp [badR, a0, a1, a2]
      (with_reducible refine Qo fun K E hK hE => ?_)
      (try simp only [Qme]); refine Qz 6 (fun K1 hK1 => ?_); simp -implicitDefEqProofs only [Qd, Qb, Qg, OpW, aop, AS.ev, Qc, Qk, Ql0, ↓reduceIte, Nat.reduceLT, Nat.reduceEqDiff, QlD, QlE, QlF, QlI, QlG, QlO, QlV, Xb, QlL, QlH]; refine hK1 _ ?_; clear hK1
      (try simp only [QlM, QlU]); refine Qz 8 (fun K1 hK1 => ?_); simp -implicitDefEqProofs only [Qd, Qb, Qg, OpW, aop, undef, AS.ev, Qc, Qr, Qk, Ql0, Ql1, ↓reduceIte, Nat.reduceLT, Nat.reduceEqDiff, QlD, QlE, QlF, QlI, QlG, QlO, QlV, Xb, QlL, QlH, beq_false]; refine hK1 _ ?_; clear hK1
      (try simp only [QlM, QlU]); refine Qz 8 (fun K1 hK1 => ?_); simp -implicitDefEqProofs only [Qd, Qb, Qg, OpW, aop, undef, AS.ev, Qc, Qr, Qk, Ql0, ↓reduceIte, Nat.reduceLT, Nat.reduceEqDiff, QlD, QlE, QlI, QlG, QlO, QlV, beq_false]; refine hK1 _ ?_; clear hK1
      (try simp only [QlM, QlU]); refine Qz 7 (fun K1 hK1 => ?_); simp -implicitDefEqProofs only [Qd, Qb, Qg, OpW, aop, undef, AS.ev, Qc, Qr, Qk, Ql0, ↓reduceIte, Nat.reduceLT, Nat.reduceEqDiff, QlD, QlE, QlI, QlG, QlO, QlV, beq_false]; refine hK1 _ ?_; clear hK1
      (try simp only [QlM, QlU]); refine Qz 5 (fun K1 hK1 => ?_); simp -implicitDefEqProofs only [Qd, Qb, Qg, OpW, aop, undef, AS.ev, Qc, Qr, Qk, Ql0, ↓reduceIte, Nat.reduceLT, Nat.reduceEqDiff, QlD, QlE, QlI, QlG, QlO, QlV, beq_false]; refine hK1 _ ?_; clear hK1
      (try simp only [QlM, QlU]); refine Qz 9 (fun K1 hK1 => ?_); simp -implicitDefEqProofs only [Qd, Qb, Qg, OpW, aop, undef, AS.ev, Qc, Qk, Ql0, ↓reduceIte, Nat.reduceLT, Nat.reduceEqDiff, QlD, QlE, QlI, QlG, QlO, QlV, beq_false]; (repeat ((((with_reducible refine Qa fun K E hK hE => ?_)); simp -implicitDefEqProofs only [Qd, Qb, Qg, OpW, QR, aop, undef, YS, Qmj, Qmk, Zh, Yo, YF, AS.ev, Qc, QY, Qq, Qr, QF, Xq, YG, Xt, Xz, Xn, YJ, Qk, QD, QlK, Ql3, AV.Qk5, Qy, Q6, Xs, XY, Xh, XU, Yp, Yk, X0, QM, Xy, XJ, X4, XQ, X2, Yj, Yi, XZ, QlX, QlY, QC, XI, QA, QP, X1, Xc, Xp, Xi, QI, X3, Xm, XX, Yn, Ym, XW, QlZ, Qmm, Qmn, Ql0, Ql1, ↓reduceIte, QlQ, QlR, Nat.reduceAdd, Nat.reduceLT, Nat.reduceLeDiff, Nat.reduceEqDiff, Nat.reduceSub, Nat.reduceMul, QlP, Ql2, Qmc, Qmd, Qmb, Xo, Xr, Ql, QK, QL, Xj, Q0, QJ, aBin, Yt, aLen, QO, hget, Yg, hset, hlen, happ, QlD, QlE, Qmt, Ql7, Ql8, QlF, Qmi, QlI, Qmh, QlJ, Qme, QlG, QlS, QlW, Ql5, Ql4, Ql6, QlO, QlV, QlM, QlU, QS, XA, Q1, Xf, Xb, QZ, Yc, Za, goInt, Ql9, Qma, QlL, Qmo, Qmg, Int.toNat_zero, Int.toNat_one, Qmf, Qmr, Qms, Qmp, QlH, Qml, beq_true, beq_false, rng0, rng1, rng2, rng3, rng4, rng5, rng6, rng7, rng8, Xa, Nat.reducePow, Nat.zero_le, Nat.zero_mul, T.Qk4, T.Qk6, QE, Xg, ti0, zi0, ti3, zi3, un3, ti4, zi4, un4, ti9, ei9, zi9, un9, ti22, ei22, ai22, zi22, un22, ti23, ei23, ai23, zi23, un23, ti25, XT, X7, X6, XR, XP, Zo, zi25, sp25, ti53, XG, Yy, Ya, zi53, sp53, ti66, YQ, YM, zi66, sp66, ti86, Qmq, Int.sub_zero, Zz, Q5, Rl.cells, Rl.isAgg, QG, a0, a1, a2]))); refine hK1 _ ?_; clear hK1
      (try simp only [QlM, QlU])
      simp -implicitDefEqProofs only [Qd, Qb, Qg, OpW, aop, undef, AS.ev, Qc, Qr, Qk, Ql0, ↓reduceIte, Nat.reduceLT, Nat.reduceEqDiff, QlD, QlE, QlI, QlG, beq_false]
      repeat (first | (with_reducible refine Qf ?_) | ((with_reducible refine hK _ ?_); clear hK))
      rw [R]
      exact ⟨rfl, rfl, rfl, rfl, rfl, rfl, rfl⟩
    cases a3 : x.body.all Q4
    · skip
      have R : badR x = true := by
        simp [badR, a0, a1, a2, a3]
      (with_reducible refine Qo fun K E hK hE => ?_)
      (try simp only [Qme]); refine Qz 6 (fun K1 hK1 => ?_); simp -implicitDefEqProofs only [Qd, Qb, Qg, OpW, aop, AS.ev, Qc, Qk, Ql0, ↓reduceIte, Nat.reduceLT, Nat.reduceEqDiff, QlD, QlE, QlF, QlI, QlG, QlO, QlV, Xb, QlL, QlH]; refine hK1 _ ?_; clear hK1
      (try simp only [QlM, QlU]); refine Qz 8 (fun K1 hK1 => ?_); simp -implicitDefEqProofs only [Qd, Qb, Qg, OpW, aop, AS.ev, Qc, Qk, Ql0, Ql1, ↓reduceIte, Nat.reduceLT, Nat.reduceEqDiff, QlD, QlE, QlF, QlI, QlG, QlO, QlV, Xb, QlL, QlH]; refine hK1 _ ?_; clear hK1
      (try simp only [QlM, QlU]); refine Qz 8 (fun K1 hK1 => ?_); simp -implicitDefEqProofs only [Qd, Qb, Qg, OpW, aop, undef, AS.ev, Qc, Qr, Qk, Ql0, ↓reduceIte, Nat.reduceLT, Nat.reduceEqDiff, QlD, QlE, QlI, QlG, QlO, QlV, beq_false]; refine hK1 _ ?_; clear hK1
      (try simp only [QlM, QlU]); refine Qz 7 (fun K1 hK1 => ?_); simp -implicitDefEqProofs only [Qd, Qb, Qg, OpW, aop, undef, AS.ev, Qc, Qr, Qk, Ql0, ↓reduceIte, Nat.reduceLT, Nat.reduceEqDiff, QlD, QlE, QlI, QlG, QlO, QlV, beq_false]; refine hK1 _ ?_; clear hK1
      (try simp only [QlM, QlU]); refine Qz 5 (fun K1 hK1 => ?_); simp -implicitDefEqProofs only [Qd, Qb, Qg, OpW, aop, undef, AS.ev, Qc, Qr, Qk, Ql0, ↓reduceIte, Nat.reduceLT, Nat.reduceEqDiff, QlD, QlE, QlI, QlG, QlO, QlV, beq_false]; refine hK1 _ ?_; clear hK1
      (try simp only [QlM, QlU]); refine Qz 9 (fun K1 hK1 => ?_); simp -implicitDefEqProofs only [Qd, Qb, Qg, OpW, aop, undef, AS.ev, Qc, Qk, Ql0, ↓reduceIte, Nat.reduceLT, Nat.reduceEqDiff, QlD, QlE, QlI, QlG, QlO, QlV, beq_false]; (repeat ((((with_reducible refine Qa fun K E hK hE => ?_)); simp -implicitDefEqProofs only [Qd, Qb, Qg, OpW, QR, aop, undef, YS, Qmj, Qmk, Zh, Yo, YF, AS.ev, Qc, QY, Qq, Qr, QF, Xq, YG, Xt, Xz, Xn, YJ, Qk, QD, QlK, Ql3, AV.Qk5, Qy, Q6, Xs, XY, Xh, XU, Yp, Yk, X0, QM, Xy, XJ, X4, XQ, X2, Yj, Yi, XZ, QlX, QlY, QC, XI, QA, QP, X1, Xc, Xp, Xi, QI, X3, Xm, XX, Yn, Ym, XW, QlZ, Qmm, Qmn, Ql0, Ql1, ↓reduceIte, QlQ, QlR, Nat.reduceAdd, Nat.reduceLT, Nat.reduceLeDiff, Nat.reduceEqDiff, Nat.reduceSub, Nat.reduceMul, QlP, Ql2, Qmc, Qmd, Qmb, Xo, Xr, Ql, QK, QL, Xj, Q0, QJ, aBin, Yt, aLen, QO, hget, Yg, hset, hlen, happ, QlD, QlE, Qmt, Ql7, Ql8, QlF, Qmi, QlI, Qmh, QlJ, Qme, QlG, QlS, QlW, Ql5, Ql4, Ql6, QlO, QlV, QlM, QlU, QS, XA, Q1, Xf, Xb, QZ, Yc, Za, goInt, Ql9, Qma, QlL, Qmo, Qmg, Int.toNat_zero, Int.toNat_one, Qmf, Qmr, Qms, Qmp, QlH, Qml, beq_true, beq_false, rng0, rng1, rng2, rng3, rng4, rng5, rng6, rng7, rng8, Xa, Nat.reducePow, Nat.zero_le, Nat.zero_mul, T.Qk4, T.Qk6, QE, Xg, ti0, zi0, ti3, zi3, un3, ti4, zi4, un4, ti9, ei9, zi9, un9, ti22, ei22, ai22, zi22, un22, ti23, ei23, ai23, zi23, un23, ti25, XT, X7, X6, XR, XP, Zo, zi25, sp25, ti53, XG, Yy, Ya, zi53, sp53, ti66, YQ, YM, zi66, sp66, ti86, Qmq, Int.sub_zero, Zz, Q5, Rl.cells, Rl.isAgg, QG, a0, a1, a2, a3]))); refine hK1 _ ?_; clear hK1
      (try simp only [QlM, QlU])
      simp -implicitDefEqProofs only [Qd, Qb, Qg, OpW, aop, undef, AS.ev, Qc, Qr, Qk, Ql0, ↓reduceIte, Nat.reduceLT, Nat.reduceEqDiff, QlD, QlE, QlI, QlG, beq_false]
      repeat (first | (with_reducible refine Qf ?_) | ((with_reducible refine hK _ ?_); clear hK))
      rw [R]
      exact ⟨rfl, rfl, rfl, rfl, rfl, rfl, rfl⟩
    cases d0 : ((nn : Int) == 0)
    rotate_left
    · have d0' : x.keep.length + x.remove.length = 0 := by simp at d0; omega
      have R : badR x = true := by
        simp only [badR, a0, a1, a2, a3, decide_eq_true d0']; rfl
      (with_reducible refine Qo fun K E hK hE => ?_)
      (try simp only [Qme]); refine Qz 6 (fun K1 hK1 => ?_); simp -implicitDefEqProofs only [Qd, Qb, Qg, OpW, aop, AS.ev, Qc, Qk, Ql0, ↓reduceIte, Nat.reduceLT, Nat.reduceEqDiff, QlD, QlE, QlF, QlI, QlG, QlO, QlV, Xb, QlL, QlH]; refine hK1 _ ?_; clear hK1
      (try simp only [QlM, QlU]); refine Qz 8 (fun K1 hK1 => ?_); simp -implicitDefEqProofs only [Qd, Qb, Qg, OpW, aop, AS.ev, Qc, Qk, Ql0, ↓reduceIte, Nat.reduceLT, Nat.reduceEqDiff, QlD, QlE, QlF, QlI, QlG, QlO, QlV, Xb, QlL, QlH]; refine hK1 _ ?_; clear hK1
      (try simp only [QlM, QlU]); refine Qz 8 (fun K1 hK1 => ?_); simp -implicitDefEqProofs only [Qd, Qb, Qg, OpW, aop, undef, AS.ev, Qc, Qq, Qr, Qk, Ql0, ↓reduceIte, Nat.reduceLT, Nat.reduceEqDiff, aBin, QlD, QlE, QlF, QlI, QlG, QlO, QlV, QS, QlL, QlH, beq_false, d0]; refine hK1 _ ?_; clear hK1
      (try simp only [QlM, QlU]); refine Qz 7 (fun K1 hK1 => ?_); simp -implicitDefEqProofs only [Qd, Qb, Qg, OpW, aop, undef, AS.ev, Qc, Qr, Qk, Ql0, ↓reduceIte, Nat.reduceLT, Nat.reduceEqDiff, QlD, QlE, QlI, QlG, QlO, QlV, beq_false]; refine hK1 _ ?_; clear hK1
      (try simp only [QlM, QlU]); refine Qz 5 (fun K1 hK1 => ?_); simp -implicitDefEqProofs only [Qd, Qb, Qg, OpW, aop, undef, AS.ev, Qc, Qr, Qk, Ql0, ↓reduceIte, Nat.reduceLT, Nat.reduceEqDiff, QlD, QlE, QlI, QlG, QlO, QlV, beq_false]; refine hK1 _ ?_; clear hK1
      (try simp only [QlM, QlU]); refine Qz 9 (fun K1 hK1 => ?_); simp -implicitDefEqProofs only [Qd, Qb, Qg, OpW, aop, undef, AS.ev, Qc, Qk, Ql0, ↓reduceIte, Nat.reduceLT, Nat.reduceEqDiff, QlD, QlE, QlI, QlG, QlO, QlV, beq_false]; (repeat ((((with_reducible refine Qa fun K E hK hE => ?_)); simp -implicitDefEqProofs only [Qd, Qb, Qg, OpW, QR, aop, undef, YS, Qmj, Qmk, Zh, Yo, YF, AS.ev, Qc, QY, Qq, Qr, QF, Xq, YG, Xt, Xz, Xn, YJ, Qk, QD, QlK, Ql3, AV.Qk5, Qy, Q6, Xs, XY, Xh, XU, Yp, Yk, X0, QM, Xy, XJ, X4, XQ, X2, Yj, Yi, XZ, QlX, QlY, QC, XI, QA, QP, X1, Xc, Xp, Xi, QI, X3, Xm, XX, Yn, Ym, XW, QlZ, Qmm, Qmn, Ql0, Ql1, ↓reduceIte, QlQ, QlR, Nat.reduceAdd, Nat.reduceLT, Nat.reduceLeDiff, Nat.reduceEqDiff, Nat.reduceSub, Nat.reduceMul, QlP, Ql2, Qmc, Qmd, Qmb, Xo, Xr, Ql, QK, QL, Xj, Q0, QJ, aBin, Yt, aLen, QO, hget, Yg, hset, hlen, happ, QlD, QlE, Qmt, Ql7, Ql8, QlF, Qmi, QlI, Qmh, QlJ, Qme, QlG, QlS, QlW, Ql5, Ql4, Ql6, QlO, QlV, QlM, QlU, QS, XA, Q1, Xf, Xb, QZ, Yc, Za, goInt, Ql9, Qma, QlL, Qmo, Qmg, Int.toNat_zero, Int.toNat_one, Qmf, Qmr, Qms, Qmp, QlH, Qml, beq_true, beq_false, rng0, rng1, rng2, rng3, rng4, rng5, rng6, rng7, rng8, Xa, Nat.reducePow, Nat.zero_le, Nat.zero_mul, T.Qk4, T.Qk6, QE, Xg, ti0, zi0, ti3, zi3, un3, ti4, zi4, un4, ti9, ei9, zi9, un9, ti22, ei22, ai22, zi22, un22, ti23, ei23, ai23, zi23, un23, ti25, XT, X7, X6, XR, XP, Zo, zi25, sp25, ti53, XG, Yy, Ya, zi53, sp53, ti66, YQ, YM, zi66, sp66, ti86, Qmq, Int.sub_zero, Zz, Q5, Rl.cells, Rl.isAgg, QG, a0, a1, a2, a3, d0]))); refine hK1 _ ?_; clear hK1
      (try simp only [QlM, QlU])
      simp -implicitDefEqProofs only [Qd, Qb, Qg, OpW, aop, undef, AS.ev, Qc, Qr, Qk, Ql0, ↓reduceIte, Nat.reduceLT, Nat.reduceEqDiff, QlD, QlE, QlI, QlG, beq_false]
      repeat (first | (with_reducible refine Qf ?_) | ((with_reducible refine hK _ ?_); clear hK))
      rw [R]
      exact ⟨rfl, rfl, rfl, rfl, rfl, rfl, rfl⟩
    have d0' : ¬ x.keep.length + x.remove.length = 0 := by simp at d0; omega
    by_cases d1' : 4 < x.keep.length + x.remove.length
    · have d1 : (nn : Int) > 4 := by omega
      have R : badR x = true := by
        simp only [badR, a0, a1, a2, a3, decide_eq_false d0', decide_eq_true d1']; rfl
      (with_reducible refine Qo fun K E hK hE => ?_)
      (try simp only [Qme]); refine Qz 6 (fun K1 hK1 => ?_); simp -implicitDefEqProofs only [Qd, Qb, Qg, OpW, aop, AS.ev, Qc, Qk, Ql0, ↓reduceIte, Nat.reduceLT, Nat.reduceEqDiff, QlD, QlE, QlF, QlI, QlG, QlO, QlV, Xb, QlL, QlH]; refine hK1 _ ?_; clear hK1
      (try simp only [QlM, QlU]); refine Qz 8 (fun K1 hK1 => ?_); simp -implicitDefEqProofs only [Qd, Qb, Qg, OpW, aop, AS.ev, Qc, Qk, Ql0, ↓reduceIte, Nat.reduceLT, Nat.reduceEqDiff, QlD, QlE, QlF, QlI, QlG, QlO, QlV, Xb, QlL, QlH]; refine hK1 _ ?_; clear hK1
      (try simp only [QlM, QlU]); refine Qz 8 (fun K1 hK1 => ?_); simp -implicitDefEqProofs only [Qd, Qb, Qg, OpW, aop, AS.ev, Qc, Qq, Qk, ↓reduceIte, Nat.reduceLT, Nat.reduceEqDiff, aBin, QlD, QlE, QlF, QlI, QlG, QlO, QlV, QS, Q1, Ql9, QlL, QlH, d0, d1]; refine hK1 _ ?_; clear hK1
      (try simp only [QlM, QlU]); refine Qz 7 (fun K1 hK1 => ?_); simp -implicitDefEqProofs only [Qd, Qb, Qg, OpW, aop, undef, AS.ev, Qc, Qr, Qk, Ql0, ↓reduceIte, Nat.reduceLT, Nat.reduceEqDiff, QlD, QlE, QlI, QlG, QlO, QlV, beq_false]; refine hK1 _ ?_; clear hK1
      (try simp only [QlM, QlU]); refine Qz 5 (fun K1 hK1 => ?_); simp -implicitDefEqProofs only [Qd, Qb, Qg, OpW, aop, undef, AS.ev, Qc, Qr, Qk, Ql0, ↓reduceIte, Nat.reduceLT, Nat.reduceEqDiff, QlD, QlE, QlI, QlG, QlO, QlV, beq_false]; refine hK1 _ ?_; clear hK1
      (try simp only [QlM, QlU]); refine Qz 9 (fun K1 hK1 => ?_); simp -implicitDefEqProofs only [Qd, Qb, Qg, OpW, aop, undef, AS.ev, Qc, Qk, Ql0, ↓reduceIte, Nat.reduceLT, Nat.reduceEqDiff, QlD, QlE, QlI, QlG, QlO, QlV, beq_false]; (repeat ((((with_reducible refine Qa fun K E hK hE => ?_)); simp -implicitDefEqProofs only [Qd, Qb, Qg, OpW, QR, aop, undef, YS, Qmj, Qmk, Zh, Yo, YF, AS.ev, Qc, QY, Qq, Qr, QF, Xq, YG, Xt, Xz, Xn, YJ, Qk, QD, QlK, Ql3, AV.Qk5, Qy, Q6, Xs, XY, Xh, XU, Yp, Yk, X0, QM, Xy, XJ, X4, XQ, X2, Yj, Yi, XZ, QlX, QlY, QC, XI, QA, QP, X1, Xc, Xp, Xi, QI, X3, Xm, XX, Yn, Ym, XW, QlZ, Qmm, Qmn, Ql0, Ql1, ↓reduceIte, QlQ, QlR, Nat.reduceAdd, Nat.reduceLT, Nat.reduceLeDiff, Nat.reduceEqDiff, Nat.reduceSub, Nat.reduceMul, QlP, Ql2, Qmc, Qmd, Qmb, Xo, Xr, Ql, QK, QL, Xj, Q0, QJ, aBin, Yt, aLen, QO, hget, Yg, hset, hlen, happ, QlD, QlE, Qmt, Ql7, Ql8, QlF, Qmi, QlI, Qmh, QlJ, Qme, QlG, QlS, QlW, Ql5, Ql4, Ql6, QlO, QlV, QlM, QlU, QS, XA, Q1, Xf, Xb, QZ, Yc, Za, goInt, Ql9, Qma, QlL, Qmo, Qmg, Int.toNat_zero, Int.toNat_one, Qmf, Qmr, Qms, Qmp, QlH, Qml, beq_true, beq_false, rng0, rng1, rng2, rng3, rng4, rng5, rng6, rng7, rng8, Xa, Nat.reducePow, Nat.zero_le, Nat.zero_mul, T.Qk4, T.Qk6, QE, Xg, ti0, zi0, ti3, zi3, un3, ti4, zi4, un4, ti9, ei9, zi9, un9, ti22, ei22, ai22, zi22, un22, ti23, ei23, ai23, zi23, un23, ti25, XT, X7, X6, XR, XP, Zo, zi25, sp25, ti53, XG, Yy, Ya, zi53, sp53, ti66, YQ, YM, zi66, sp66, ti86, Qmq, Int.sub_zero, Zz, Q5, Rl.cells, Rl.isAgg, QG, a0, a1, a2, a3, d0, d1]))); refine hK1 _ ?_; clear hK1
      (try simp only [QlM, QlU])
      simp -implicitDefEqProofs only [Qd, Qb, Qg, OpW, aop, undef, AS.ev, Qc, Qr, Qk, Ql0, ↓reduceIte, Nat.reduceLT, Nat.reduceEqDiff, QlD, QlE, QlI, QlG, beq_false]
      repeat (first | (with_reducible refine Qf ?_) | ((with_reducible refine hK _ ?_); clear hK))
      rw [R]
      exact ⟨rfl, rfl, rfl, rfl, rfl, rfl, rfl⟩
    have d1 : ¬ (nn : Int) > 4 := by omega
    by_cases d2' : 12 < x.guard.length
    · have d2 : (x.guard.length : Int) > 12 := by omega
      have R : badR x = true := by
        simp only [badR, a0, a1, a2, a3, decide_eq_false d0', decide_eq_false d1', decide_eq_true d2']; rfl
      (with_reducible refine Qo fun K E hK hE => ?_)
      (try simp only [Qme]); refine Qz 6 (fun K1 hK1 => ?_); simp -implicitDefEqProofs only [Qd, Qb, Qg, OpW, aop, AS.ev, Qc, Qk, Ql0, ↓reduceIte, Nat.reduceLT, Nat.reduceEqDiff, QlD, QlE, QlF, QlI, QlG, QlO, QlV, Xb, QlL, QlH]; refine hK1 _ ?_; clear hK1
      (try simp only [QlM, QlU]); refine Qz 8 (fun K1 hK1 => ?_); simp -implicitDefEqProofs only [Qd, Qb, Qg, OpW, aop, AS.ev, Qc, Qk, Ql0, ↓reduceIte, Nat.reduceLT, Nat.reduceEqDiff, QlD, QlE, QlF, QlI, QlG, QlO, QlV, Xb, QlL, QlH]; refine hK1 _ ?_; clear hK1
      (try simp only [QlM, QlU]); refine Qz 8 (fun K1 hK1 => ?_); simp -implicitDefEqProofs only [Qd, Qb, Qg, OpW, aop, AS.ev, Qc, Qq, Qk, ↓reduceIte, Nat.reduceLT, Nat.reduceEqDiff, aBin, QlD, QlE, QlF, QlI, QlG, QlO, QlV, QS, Q1, Qma, QlL, QlH, d0, d1]; refine hK1 _ ?_; clear hK1
      (try simp only [QlM, QlU]); refine Qz 7 (fun K1 hK1 => ?_); simp -implicitDefEqProofs only [Qd, Qb, Qg, OpW, aop, AS.ev, Qc, Qq, Qk, ↓reduceIte, Nat.reduceLT, Nat.reduceEqDiff, QlP, Ql, QK, QL, aBin, aLen, QO, QlD, QlE, QlF, QlI, QlG, QlO, QlV, Q1, goInt, Ql9, QlL, QlH, ti23, un23, XR, Rl.cells, QG, d2]; refine hK1 _ ?_; clear hK1
      (try simp only [QlM, QlU]); refine Qz 5 (fun K1 hK1 => ?_); simp -implicitDefEqProofs only [Qd, Qb, Qg, OpW, aop, undef, AS.ev, Qc, Qr, Qk, Ql0, ↓reduceIte, Nat.reduceLT, Nat.reduceEqDiff, QlD, QlE, QlI, QlG, QlO, QlV, beq_false]; refine hK1 _ ?_; clear hK1
      (try simp only [QlM, QlU]); refine Qz 9 (fun K1 hK1 => ?_); simp -implicitDefEqProofs only [Qd, Qb, Qg, OpW, aop, undef, AS.ev, Qc, Qk, Ql0, ↓reduceIte, Nat.reduceLT, Nat.reduceEqDiff, QlD, QlE, QlI, QlG, QlO, QlV, beq_false]; (repeat ((((with_reducible refine Qa fun K E hK hE => ?_)); simp -implicitDefEqProofs only [Qd, Qb, Qg, OpW, QR, aop, undef, YS, Qmj, Qmk, Zh, Yo, YF, AS.ev, Qc, QY, Qq, Qr, QF, Xq, YG, Xt, Xz, Xn, YJ, Qk, QD, QlK, Ql3, AV.Qk5, Qy, Q6, Xs, XY, Xh, XU, Yp, Yk, X0, QM, Xy, XJ, X4, XQ, X2, Yj, Yi, XZ, QlX, QlY, QC, XI, QA, QP, X1, Xc, Xp, Xi, QI, X3, Xm, XX, Yn, Ym, XW, QlZ, Qmm, Qmn, Ql0, Ql1, ↓reduceIte, QlQ, QlR, Nat.reduceAdd, Nat.reduceLT, Nat.reduceLeDiff, Nat.reduceEqDiff, Nat.reduceSub, Nat.reduceMul, QlP, Ql2, Qmc, Qmd, Qmb, Xo, Xr, Ql, QK, QL, Xj, Q0, QJ, aBin, Yt, aLen, QO, hget, Yg, hset, hlen, happ, QlD, QlE, Qmt, Ql7, Ql8, QlF, Qmi, QlI, Qmh, QlJ, Qme, QlG, QlS, QlW, Ql5, Ql4, Ql6, QlO, QlV, QlM, QlU, QS, XA, Q1, Xf, Xb, QZ, Yc, Za, goInt, Ql9, Qma, QlL, Qmo, Qmg, Int.toNat_zero, Int.toNat_one, Qmf, Qmr, Qms, Qmp, QlH, Qml, beq_true, beq_false, rng0, rng1, rng2, rng3, rng4, rng5, rng6, rng7, rng8, Xa, Nat.reducePow, Nat.zero_le, Nat.zero_mul, T.Qk4, T.Qk6, QE, Xg, ti0, zi0, ti3, zi3, un3, ti4, zi4, un4, ti9, ei9, zi9, un9, ti22, ei22, ai22, zi22, un22, ti23, ei23, ai23, zi23, un23, ti25, XT, X7, X6, XR, XP, Zo, zi25, sp25, ti53, XG, Yy, Ya, zi53, sp53, ti66, YQ, YM, zi66, sp66, ti86, Qmq, Int.sub_zero, Zz, Q5, Rl.cells, Rl.isAgg, QG, a0, a1, a2, a3, d0, d1, d2]))); refine hK1 _ ?_; clear hK1
      (try simp only [QlM, QlU])
      simp -implicitDefEqProofs only [Qd, Qb, Qg, OpW, aop, undef, AS.ev, Qc, Qr, Qk, Ql0, ↓reduceIte, Nat.reduceLT, Nat.reduceEqDiff, QlD, QlE, QlI, QlG, beq_false]
      repeat (first | (with_reducible refine Qf ?_) | ((with_reducible refine hK _ ?_); clear hK))
      rw [R]
      exact ⟨rfl, rfl, rfl, rfl, rfl, rfl, rfl⟩
    have d2 : ¬ (x.guard.length : Int) > 12 := by omega
    by_cases d3' : 12 < x.body.length
    · have d3 : (x.body.length : Int) > 12 := by omega
      have R : badR x = true := by
        simp only [badR, a0, a1, a2, a3, decide_eq_false d0', decide_eq_false d1', decide_eq_false d2', decide_eq_true d3']; rfl
      (with_reducible refine Qo fun K E hK hE => ?_)
      (try simp only [Qme]); refine Qz 6 (fun K1 hK1 => ?_); simp -implicitDefEqProofs only [Qd, Qb, Qg, OpW, aop, AS.ev, Qc, Qk, Ql0, ↓reduceIte, Nat.reduceLT, Nat.reduceEqDiff, QlD, QlE, QlF, QlI, QlG, QlO, QlV, Xb, QlL, QlH]; refine hK1 _ ?_; clear hK1
      (try simp only [QlM, QlU]); refine Qz 8 (fun K1 hK1 => ?_); simp -implicitDefEqProofs only [Qd, Qb, Qg, OpW, aop, AS.ev, Qc, Qk, Ql0, ↓reduceIte, Nat.reduceLT, Nat.reduceEqDiff, QlD, QlE, QlF, QlI, QlG, QlO, QlV, Xb, QlL, QlH]; refine hK1 _ ?_; clear hK1
      (try simp only [QlM, QlU]); refine Qz 8 (fun K1 hK1 => ?_); simp -implicitDefEqProofs only [Qd, Qb, Qg, OpW, aop, AS.ev, Qc, Qq, Qk, ↓reduceIte, Nat.reduceLT, Nat.reduceEqDiff, aBin, QlD, QlE, QlF, QlI, QlG, QlO, QlV, QS, Q1, Qma, QlL, QlH, d0, d1]; refine hK1 _ ?_; clear hK1
      (try simp only [QlM, QlU]); refine Qz 7 (fun K1 hK1 => ?_); simp -implicitDefEqProofs only [Qd, Qb, Qg, OpW, aop, AS.ev, Qc, Qq, Qk, ↓reduceIte, Nat.reduceLT, Nat.reduceEqDiff, QlP, Ql, QK, QL, aBin, aLen, QO, QlD, QlE, QlF, QlI, QlG, QlO, QlV, Q1, goInt, Qma, QlL, QlH, ti23, un23, XR, Rl.cells, QG, d2]; refine hK1 _ ?_; clear hK1
      (try simp only [QlM, QlU]); refine Qz 5 (fun K1 hK1 => ?_); simp -implicitDefEqProofs only [Qd, Qb, Qg, OpW, aop, AS.ev, Qc, Qq, Qk, ↓reduceIte, Nat.reduceLT, Nat.reduceEqDiff, QlP, Ql, QK, QL, aBin, aLen, QO, QlD, QlE, QlF, QlI, QlG, QlO, QlV, Q1, goInt, Ql9, QlL, QlH, ti23, un23, XP, Rl.cells, QG, d3]; refine hK1 _ ?_; clear hK1
      (try simp only [QlM, QlU]); refine Qz 9 (fun K1 hK1 => ?_); simp -implicitDefEqProofs only [Qd, Qb, Qg, OpW, aop, undef, AS.ev, Qc, Qk, Ql0, ↓reduceIte, Nat.reduceLT, Nat.reduceEqDiff, QlD, QlE, QlI, QlG, QlO, QlV, beq_false]; (repeat ((((with_reducible refine Qa fun K E hK hE => ?_)); simp -implicitDefEqProofs only [Qd, Qb, Qg, OpW, QR, aop, undef, YS, Qmj, Qmk, Zh, Yo, YF, AS.ev, Qc, QY, Qq, Qr, QF, Xq, YG, Xt, Xz, Xn, YJ, Qk, QD, QlK, Ql3, AV.Qk5, Qy, Q6, Xs, XY, Xh, XU, Yp, Yk, X0, QM, Xy, XJ, X4, XQ, X2, Yj, Yi, XZ, QlX, QlY, QC, XI, QA, QP, X1, Xc, Xp, Xi, QI, X3, Xm, XX, Yn, Ym, XW, QlZ, Qmm, Qmn, Ql0, Ql1, ↓reduceIte, QlQ, QlR, Nat.reduceAdd, Nat.reduceLT, Nat.reduceLeDiff, Nat.reduceEqDiff, Nat.reduceSub, Nat.reduceMul, QlP, Ql2, Qmc, Qmd, Qmb, Xo, Xr, Ql, QK, QL, Xj, Q0, QJ, aBin, Yt, aLen, QO, hget, Yg, hset, hlen, happ, QlD, QlE, Qmt, Ql7, Ql8, QlF, Qmi, QlI, Qmh, QlJ, Qme, QlG, QlS, QlW, Ql5, Ql4, Ql6, QlO, QlV, QlM, QlU, QS, XA, Q1, Xf, Xb, QZ, Yc, Za, goInt, Ql9, Qma, QlL, Qmo, Qmg, Int.toNat_zero, Int.toNat_one, Qmf, Qmr, Qms, Qmp, QlH, Qml, beq_true, beq_false, rng0, rng1, rng2, rng3, rng4, rng5, rng6, rng7, rng8, Xa, Nat.reducePow, Nat.zero_le, Nat.zero_mul, T.Qk4, T.Qk6, QE, Xg, ti0, zi0, ti3, zi3, un3, ti4, zi4, un4, ti9, ei9, zi9, un9, ti22, ei22, ai22, zi22, un22, ti23, ei23, ai23, zi23, un23, ti25, XT, X7, X6, XR, XP, Zo, zi25, sp25, ti53, XG, Yy, Ya, zi53, sp53, ti66, YQ, YM, zi66, sp66, ti86, Qmq, Int.sub_zero, Zz, Q5, Rl.cells, Rl.isAgg, QG, a0, a1, a2, a3, d0, d1, d2, d3]))); refine hK1 _ ?_; clear hK1
      (try simp only [QlM, QlU])
      simp -implicitDefEqProofs only [Qd, Qb, Qg, OpW, aop, undef, AS.ev, Qc, Qr, Qk, Ql0, ↓reduceIte, Nat.reduceLT, Nat.reduceEqDiff, QlD, QlE, QlI, QlG, beq_false]
      repeat (first | (with_reducible refine Qf ?_) | ((with_reducible refine hK _ ?_); clear hK))
      rw [R]
      exact ⟨rfl, rfl, rfl, rfl, rfl, rfl, rfl⟩
    have d3 : ¬ (x.body.length : Int) > 12 := by omega
    cases e0 : Yr x.name
    rotate_left
    · have e0' : (x.name.toList == ({ data := #[] } : ByteArray).toList) = true := e0
      have R : badR x = false := by
        simp only [badR, a0, a1, a2, a3, decide_eq_false d0', decide_eq_false d1', decide_eq_false d2', decide_eq_false d3', e0]; rfl
      (with_reducible refine Qo fun K E hK hE => ?_)
      (try simp only [Qme]); refine Qz 6 (fun K1 hK1 => ?_); simp -implicitDefEqProofs only [Qd, Qb, Qg, OpW, aop, AS.ev, Qc, Qk, Ql0, ↓reduceIte, Nat.reduceLT, Nat.reduceEqDiff, QlD, QlE, QlF, QlI, QlG, QlO, QlV, Xb, QlL, QlH]; refine hK1 _ ?_; clear hK1
      (try simp only [QlM, QlU]); refine Qz 8 (fun K1 hK1 => ?_); simp -implicitDefEqProofs only [Qd, Qb, Qg, OpW, aop, AS.ev, Qc, Qk, Ql0, ↓reduceIte, Nat.reduceLT, Nat.reduceEqDiff, QlD, QlE, QlF, QlI, QlG, QlO, QlV, Xb, QlL, QlH]; refine hK1 _ ?_; clear hK1
      (try simp only [QlM, QlU]); refine Qz 8 (fun K1 hK1 => ?_); simp -implicitDefEqProofs only [Qd, Qb, Qg, OpW, aop, AS.ev, Qc, Qq, Qk, ↓reduceIte, Nat.reduceLT, Nat.reduceEqDiff, aBin, QlD, QlE, QlF, QlI, QlG, QlO, QlV, QS, Q1, Qma, QlL, QlH, d0, d1]; refine hK1 _ ?_; clear hK1
      (try simp only [QlM, QlU]); refine Qz 7 (fun K1 hK1 => ?_); simp -implicitDefEqProofs only [Qd, Qb, Qg, OpW, aop, AS.ev, Qc, Qq, Qk, ↓reduceIte, Nat.reduceLT, Nat.reduceEqDiff, QlP, Ql, QK, QL, aBin, aLen, QO, QlD, QlE, QlF, QlI, QlG, QlO, QlV, Q1, goInt, Qma, QlL, QlH, ti23, un23, XR, Rl.cells, QG, d2]; refine hK1 _ ?_; clear hK1
      (try simp only [QlM, QlU]); refine Qz 5 (fun K1 hK1 => ?_); simp -implicitDefEqProofs only [Qd, Qb, Qg, OpW, aop, AS.ev, Qc, Qq, Qk, ↓reduceIte, Nat.reduceLT, Nat.reduceEqDiff, QlP, Ql, QK, QL, aBin, aLen, QO, QlD, QlE, QlF, QlI, QlG, QlO, QlV, Q1, goInt, Qma, QlL, QlH, ti23, un23, XP, Rl.cells, QG, d3]; refine hK1 _ ?_; clear hK1
      (try simp only [QlM, QlU]); refine Qz 9 (fun K1 hK1 => ?_); simp -implicitDefEqProofs only [Qd, Qb, Qg, OpW, aop, undef, AS.ev, Qc, QF, Qk, Ql0, ↓reduceIte, Nat.reduceLT, Nat.reduceEqDiff, Ql2, Ql, QK, QL, aBin, QO, QlD, QlE, QlF, QlI, QlG, QlO, QlV, Yc, QlL, beq_true, ti9, XT, Rl.cells, e0']; (repeat ((((with_reducible refine Qa fun K E hK hE => ?_)); simp -implicitDefEqProofs only [Qd, Qb, Qg, OpW, QR, aop, undef, YS, Qmj, Qmk, Zh, Yo, YF, AS.ev, Qc, QY, Qq, Qr, QF, Xq, YG, Xt, Xz, Xn, YJ, Qk, QD, QlK, Ql3, AV.Qk5, Qy, Q6, Xs, XY, Xh, XU, Yp, Yk, X0, QM, Xy, XJ, X4, XQ, X2, Yj, Yi, XZ, QlX, QlY, QC, XI, QA, QP, X1, Xc, Xp, Xi, QI, X3, Xm, XX, Yn, Ym, XW, QlZ, Qmm, Qmn, Ql0, Ql1, ↓reduceIte, QlQ, QlR, Nat.reduceAdd, Nat.reduceLT, Nat.reduceLeDiff, Nat.reduceEqDiff, Nat.reduceSub, Nat.reduceMul, QlP, Ql2, Qmc, Qmd, Qmb, Xo, Xr, Ql, QK, QL, Xj, Q0, QJ, aBin, Yt, aLen, QO, hget, Yg, hset, hlen, happ, QlD, QlE, Qmt, Ql7, Ql8, QlF, Qmi, QlI, Qmh, QlJ, Qme, QlG, QlS, QlW, Ql5, Ql4, Ql6, QlO, QlV, QlM, QlU, QS, XA, Q1, Xf, Xb, QZ, Yc, Za, goInt, Ql9, Qma, QlL, Qmo, Qmg, Int.toNat_zero, Int.toNat_one, Qmf, Qmr, Qms, Qmp, QlH, Qml, beq_true, beq_false, rng0, rng1, rng2, rng3, rng4, rng5, rng6, rng7, rng8, Xa, Nat.reducePow, Nat.zero_le, Nat.zero_mul, T.Qk4, T.Qk6, QE, Xg, ti0, zi0, ti3, zi3, un3, ti4, zi4, un4, ti9, ei9, zi9, un9, ti22, ei22, ai22, zi22, un22, ti23, ei23, ai23, zi23, un23, ti25, XT, X7, X6, XR, XP, Zo, zi25, sp25, ti53, XG, Yy, Ya, zi53, sp53, ti66, YQ, YM, zi66, sp66, ti86, Qmq, Int.sub_zero, Zz, Q5, Rl.cells, Rl.isAgg, QG, a0, a1, a2, a3, d0, d1, d2, d3, e0']))); refine hK1 _ ?_; clear hK1
      (try simp only [QlM, QlU])
      simp -implicitDefEqProofs only [Qd, Qb, Qg, OpW, aop, AS.ev, Qc, Qr, Qk, ↓reduceIte, Nat.reduceLT, Nat.reduceEqDiff, QlD, QlE, QlI, QlG, QlL, QlH]
      repeat (first | (with_reducible refine Qf ?_) | ((with_reducible refine hK _ ?_); clear hK))
      rw [R]
      exact ⟨rfl, rfl, rfl, rfl, rfl, rfl, rfl⟩
    have e0' : (x.name.toList == ({ data := #[] } : ByteArray).toList) = false := e0
    cases e1 : Yv x.name
    · rw [e1] at cr
      have R : badR x = true := by
        simp only [badR, a0, a1, a2, a3, decide_eq_false d0', decide_eq_false d1', decide_eq_false d2', decide_eq_false d3', e0, e1]; rfl
      (with_reducible refine Qo fun K E hK hE => ?_)
      (try simp only [Qme]); refine Qz 6 (fun K1 hK1 => ?_); simp -implicitDefEqProofs only [Qd, Qb, Qg, OpW, aop, AS.ev, Qc, Qk, Ql0, ↓reduceIte, Nat.reduceLT, Nat.reduceEqDiff, QlD, QlE, QlF, QlI, QlG, QlO, QlV, Xb, QlL, QlH]; refine hK1 _ ?_; clear hK1
      (try simp only [QlM, QlU]); refine Qz 8 (fun K1 hK1 => ?_); simp -implicitDefEqProofs only [Qd, Qb, Qg, OpW, aop, AS.ev, Qc, Qk, Ql0, ↓reduceIte, Nat.reduceLT, Nat.reduceEqDiff, QlD, QlE, QlF, QlI, QlG, QlO, QlV, Xb, QlL, QlH]; refine hK1 _ ?_; clear hK1
      (try simp only [QlM, QlU]); refine Qz 8 (fun K1 hK1 => ?_); simp -implicitDefEqProofs only [Qd, Qb, Qg, OpW, aop, AS.ev, Qc, Qq, Qk, ↓reduceIte, Nat.reduceLT, Nat.reduceEqDiff, aBin, QlD, QlE, QlF, QlI, QlG, QlO, QlV, QS, Q1, Qma, QlL, QlH, d0, d1]; refine hK1 _ ?_; clear hK1
      (try simp only [QlM, QlU]); refine Qz 7 (fun K1 hK1 => ?_); simp -implicitDefEqProofs only [Qd, Qb, Qg, OpW, aop, AS.ev, Qc, Qq, Qk, ↓reduceIte, Nat.reduceLT, Nat.reduceEqDiff, QlP, Ql, QK, QL, aBin, aLen, QO, QlD, QlE, QlF, QlI, QlG, QlO, QlV, Q1, goInt, Qma, QlL, QlH, ti23, un23, XR, Rl.cells, QG, d2]; refine hK1 _ ?_; clear hK1
      (try simp only [QlM, QlU]); refine Qz 5 (fun K1 hK1 => ?_); simp -implicitDefEqProofs only [Qd, Qb, Qg, OpW, aop, AS.ev, Qc, Qq, Qk, ↓reduceIte, Nat.reduceLT, Nat.reduceEqDiff, QlP, Ql, QK, QL, aBin, aLen, QO, QlD, QlE, QlF, QlI, QlG, QlO, QlV, Q1, goInt, Qma, QlL, QlH, ti23, un23, XP, Rl.cells, QG, d3]; refine hK1 _ ?_; clear hK1
      (try simp only [QlM, QlU]); refine Qz 9 (fun K1 hK1 => ?_); simp -implicitDefEqProofs only [Qb, Qg, OpW, aop, AS.ev, Qc, QF, Qk, Ql1, ↓reduceIte, Nat.reduceLT, Nat.reduceEqDiff, Ql2, Ql, QK, QL, aBin, QO, QlD, QlE, QlF, QlI, QlG, QlS, QlW, QlO, QlV, Yc, QlL, ti9, XT, Rl.cells, e0']; (repeat ((((with_reducible refine Qs cr ?_)); simp -implicitDefEqProofs only [Qd, Qb, Qg, OpW, QR, aop, AS.ev, Qc, Qk, Ql1, ↓reduceIte, Nat.reduceLT, Nat.reduceEqDiff, QlD, QlE, QlF, QlI, QlG, Xb, QlL]))); refine hK1 _ ?_; clear hK1
      (try simp only [QlM, QlU])
      simp -implicitDefEqProofs only [Qd, Qb, Qg, OpW, aop, AS.ev, Qc, Qk, ↓reduceIte, Nat.reduceLT, Nat.reduceEqDiff, QlD, QlE, QlI, QlG, QlL, QlH]
      repeat (first | (with_reducible refine Qf ?_) | ((with_reducible refine hK _ ?_); clear hK))
      rw [R]
      exact ⟨rfl, rfl, rfl, rfl, rfl, rfl, rfl⟩
    rw [e1] at cr
    have R : badR x = false := by
      simp only [badR, a0, a1, a2, a3, decide_eq_false d0', decide_eq_false d1', decide_eq_false d2', decide_eq_false d3', e0, e1]; rfl
    (with_reducible refine Qo fun K E hK hE => ?_)
    (try simp only [Qme]); refine Qz 6 (fun K1 hK1 => ?_); simp -implicitDefEqProofs only [Qd, Qb, Qg, OpW, aop, AS.ev, Qc, Qk, Ql0, ↓reduceIte, Nat.reduceLT, Nat.reduceEqDiff, QlD, QlE, QlF, QlI, QlG, QlO, QlV, Xb, QlL, QlH]; refine hK1 _ ?_; clear hK1
    (try simp only [QlM, QlU]); refine Qz 8 (fun K1 hK1 => ?_); simp -implicitDefEqProofs only [Qd, Qb, Qg, OpW, aop, AS.ev, Qc, Qk, Ql0, ↓reduceIte, Nat.reduceLT, Nat.reduceEqDiff, QlD, QlE, QlF, QlI, QlG, QlO, QlV, Xb, QlL, QlH]; refine hK1 _ ?_; clear hK1
    (try simp only [QlM, QlU]); refine Qz 8 (fun K1 hK1 => ?_); simp -implicitDefEqProofs only [Qd, Qb, Qg, OpW, aop, AS.ev, Qc, Qq, Qk, ↓reduceIte, Nat.reduceLT, Nat.reduceEqDiff, aBin, QlD, QlE, QlF, QlI, QlG, QlO, QlV, QS, Q1, Qma, QlL, QlH, d0, d1]; refine hK1 _ ?_; clear hK1
    (try simp only [QlM, QlU]); refine Qz 7 (fun K1 hK1 => ?_); simp -implicitDefEqProofs only [Qd, Qb, Qg, OpW, aop, AS.ev, Qc, Qq, Qk, ↓reduceIte, Nat.reduceLT, Nat.reduceEqDiff, QlP, Ql, QK, QL, aBin, aLen, QO, QlD, QlE, QlF, QlI, QlG, QlO, QlV, Q1, goInt, Qma, QlL, QlH, ti23, un23, XR, Rl.cells, QG, d2]; refine hK1 _ ?_; clear hK1
    (try simp only [QlM, QlU]); refine Qz 5 (fun K1 hK1 => ?_); simp -implicitDefEqProofs only [Qd, Qb, Qg, OpW, aop, AS.ev, Qc, Qq, Qk, ↓reduceIte, Nat.reduceLT, Nat.reduceEqDiff, QlP, Ql, QK, QL, aBin, aLen, QO, QlD, QlE, QlF, QlI, QlG, QlO, QlV, Q1, goInt, Qma, QlL, QlH, ti23, un23, XP, Rl.cells, QG, d3]; refine hK1 _ ?_; clear hK1
    (try simp only [QlM, QlU]); refine Qz 9 (fun K1 hK1 => ?_); simp -implicitDefEqProofs only [Qb, Qg, OpW, aop, AS.ev, Qc, QF, Qk, Ql1, ↓reduceIte, Nat.reduceLT, Nat.reduceEqDiff, Ql2, Ql, QK, QL, aBin, QO, QlD, QlE, QlF, QlI, QlG, QlS, QlW, QlO, QlV, Yc, QlL, ti9, XT, Rl.cells, e0']; (repeat ((((with_reducible refine Qs cr ?_)); simp -implicitDefEqProofs only [Qd, Qb, Qg, OpW, QR, aop, AS.ev, Qc, Qk, Ql0, ↓reduceIte, Nat.reduceLT, Nat.reduceEqDiff, QlD, QlE, QlF, QlI, QlG, Xb, QlL]))); refine hK1 _ ?_; clear hK1
    (try simp only [QlM, QlU])
    simp -implicitDefEqProofs only [Qd, Qb, Qg, OpW, aop, AS.ev, Qc, Qk, ↓reduceIte, Nat.reduceLT, Nat.reduceEqDiff, QlD, QlE, QlI, QlG, QlL, QlH]
    repeat (first | (with_reducible refine Qf ?_) | ((with_reducible refine hK _ ?_); clear hK))
    rw [R]
    exact ⟨rfl, rfl, rfl, rfl, rfl, rfl, rfl⟩
  · rintro ⟨tm, hp⟩ ⟨t90, t1, t4, t6, t8, t10, hh⟩
    dsimp only at t90 t1 t4 t6 t8 t10 hh
    subst hh
    cases hb : badR x with
    | true =>
      rw [hb] at t90
      refine Qj (by exact t90) ?_
      simp only [↓reduceIte]
      have hV : V = ({ data := #[] } : ByteArray) := by rw [eV, hb]; rfl
      repeat (first | (((with_reducible refine Qa fun K E hK hE => ?_)); simp -implicitDefEqProofs only [Qd, Qb, Qg, OpW, aop, AS.ev, Qc, QF, Nat.reduceLT]) | (with_reducible (first | refine Qn ?_ | refine QB ?_)) | ((with_reducible refine hK _ ?_); clear hK))
      simp only [QN, Qp, Qu, upd, ↓reduceIte, QlJ, QlN]; first | refine Qe (htake _ _) (.keep (.v _)) ⟨by rw [hV], rfl⟩ | refine Qe List.take_length (.keep (.v _)) ⟨by rw [hV], rfl⟩
    | false =>
    have hbb := hb
    rw [hb] at t90
    refine Qj (by exact t90) ?_
    simp only [QlH, ↓reduceIte]
    simp only [badR, Bool.or_eq_false_iff, Bool.not_eq_false', decide_eq_false_iff_not, Bool.and_eq_false_iff] at hb
    obtain ⟨v1, v2, v3, v4, q0, q1, q2, q3, q4⟩ := hb
    rw [jAs, if_pos v1] at t4
    rw [jAs, if_pos v2] at t6
    rw [jGs, if_pos v3] at t8
    rw [jGs, if_pos v4] at t10
    have k1 := QdU v1
    have k2 := QdU v2
    have k3 := Qds v3
    have k4 := Qds v4
    have hnx : x.name.size ≤ 40 := by
      rcases q4 with e | e
      · have := Qaz e; omega
      · exact (Y1 e).2
    have z3 : ({ data := #[32, 64, 32] } : ByteArray).size = 3 := rfl
    have z5 : ({ data := #[32, 61, 61, 62, 32] } : ByteArray).size = 5 := rfl
    have z5' : ({ data := #[32, 60, 61, 62, 32] } : ByteArray).size = 5 := rfl
    have z3' : ({ data := #[32, 92, 32] } : ByteArray).size = 3 := rfl
    have z3'' : ({ data := #[32, 124, 32] } : ByteArray).size = 3 := rfl
    have z4 : ({ data := #[116, 114, 117, 101] } : ByteArray).size = 4 := rfl
    have z1 : ({ data := #[46] } : ByteArray).size = 1 := rfl
    have za1 : atB.size = 3 := rfl
    have za2 : impB.size = 5 := rfl
    have za3 : bsB.size = 3 := rfl
    have za4 : simB.size = 5 := rfl
    have za5 : barB.size = 3 := rfl
    obtain ⟨Kp, eK⟩ : ∃ Q, Q = jA x.keep := ⟨_, rfl⟩
    obtain ⟨M, eM⟩ : ∃ K, K = jA x.remove := ⟨_, rfl⟩
    obtain ⟨U, eU⟩ : ∃ K, K = jG x.guard := ⟨_, rfl⟩
    obtain ⟨B, eB⟩ : ∃ K, K = jG x.body := ⟨_, rfl⟩
    rw [← eK] at t4 k1
    rw [← eM] at t6 k2
    rw [← eU] at t8 k3
    rw [← eB] at t10 k4
    -- one goal 'true'
    iterate 4 (try (first | (with_reducible (first | refine Qi fun K hK => ?_ | refine Qv ?_ | refine Qf ?_)) | ((with_reducible refine hK _ ?_); clear hK)))
    refine Xv (fun s => s.tm 102 = .b (Qai x.body) ∧ s.tm 1 = .ptr h.length 0 0 ∧ s.tm 4 = .v (.string Kp) ∧ s.tm 6 = .v (.string M) ∧ s.tm 8 = .v (.string U) ∧ s.tm 10 = .v (.string B) ∧ s.h = h ++ [.cells 25 6 [x.av]]) ?_ ?_
    rotate_left
    · by_cases hb1 : x.body.length = 1
      · have y1 : ((x.body.length : Int) == 1) = true := by rw [hb1]; rfl
        have hg := YN G.goal (l := x.body) (k := 0) (by omega)
        have y2 : (0 : Int) < x.body.length := by omega
        rw [QbK hb1 (by omega)]
        repeat (first | (((with_reducible refine Qo fun K E hK hE => ?_)); simp -implicitDefEqProofs only [Qd, Qb, Qg, OpW, aop, AS.ev, Qc, Qq, Qk, ↓reduceIte, Nat.reduceLT, Nat.reduceEqDiff, QlP, Ql2, Qmb, Ql, QK, QL, QJ, aBin, aLen, QO, QlD, QlE, QlF, QlI, QlG, QS, goInt, QlL, Int.toNat_zero, ti3, ti23, ei23, un23, XP, XG, Qmq, Rl.cells, QG, y1, y2, hg, t1, Q3]) | (with_reducible refine Qf ?_) | ((with_reducible refine hK _ ?_); clear hK))
        exact ⟨rfl, t1, t4, t6, t8, t10, rfl⟩
      · have y1 : ((x.body.length : Int) == 1) = false := by rw [beq_eq_false_iff_ne]; omega
        have ho1 : Qai x.body = false := by
          match hh : x.body, hb1 with
          | [], _ => rfl
          | a :: b :: l, _ => rfl
        rw [ho1]
        repeat (first | (((with_reducible refine Qo fun K E hK hE => ?_)); simp -implicitDefEqProofs only [Qd, Qb, Qg, OpW, aop, undef, AS.ev, Qc, Qq, Qr, Qk, ↓reduceIte, Nat.reduceLT, Nat.reduceEqDiff, QlP, Ql, QK, QL, aBin, aLen, QO, QlD, QlE, QlF, QlI, QlG, QS, goInt, QlH, beq_true, ti23, un23, XP, Rl.cells, QG, y1, t1]) | (with_reducible refine Qf ?_) | ((with_reducible refine hK _ ?_); clear hK))
        exact ⟨rfl, t1, t4, t6, t8, t10, rfl⟩
    rintro ⟨tm, hp⟩ ⟨t102, t1, t4, t6, t8, t10, hh⟩
    dsimp only at t102 t1 t4 t6 t8 t10 hh
    subst hh
    cases ht : Qai x.body with
    | true =>
      rw [ht] at t102
      refine Qj (by exact t102) ?_
      simp only [↓reduceIte]
      have hV : V = ({ data := #[] } : ByteArray) := by rw [eV, hbb, ht]; rfl
      repeat (first | (((with_reducible refine Qa fun K E hK hE => ?_)); simp -implicitDefEqProofs only [Qd, Qb, Qg, OpW, aop, AS.ev, Qc, QF, Nat.reduceLT]) | (with_reducible (first | refine Qn ?_ | refine QB ?_)) | ((with_reducible refine hK _ ?_); clear hK))
      simp only [QN, Qp, Qu, upd, ↓reduceIte, QlJ, QlN]; first | refine Qe (htake _ _) (.keep (.v _)) ⟨by rw [hV], rfl⟩ | refine Qe List.take_length (.keep (.v _)) ⟨by rw [hV], rfl⟩
    | false =>
    rw [ht] at t102
    refine Qj (by exact t102) ?_
    simp only [QlH, ↓reduceIte]
    have hV : V = ZV (Qcx x) := by rw [eV, hbb, ht]; rfl
    -- the name and the kept heads
    iterate 3 (try (first | (with_reducible (first | refine Qv ?_ | refine Qf ?_)) | ((with_reducible refine hK _ ?_); clear hK)))
    refine Xv (fun s => s.tm 12 = .v (.string Kp) ∧ s.tm 1 = .ptr h.length 0 0 ∧ s.tm 4 = .v (.string Kp) ∧ s.tm 6 = .v (.string M) ∧ s.tm 8 = .v (.string U) ∧ s.tm 10 = .v (.string B) ∧ s.h = h ++ [.cells 25 6 [x.av]]) ?_ ?_
    rotate_left
    · repeat (first | (((with_reducible refine Qo fun K E hK hE => ?_)); simp -implicitDefEqProofs only [Qd, Qb, Qg, OpW, aop, AS.ev, Qc, Qk, ↓reduceIte, Nat.reduceLT, t4]) | (with_reducible refine Qf ?_) | ((with_reducible refine hK _ ?_); clear hK))
      exact ⟨rfl, t1, t4, t6, t8, t10, rfl⟩
    rintro ⟨tm, hp⟩ ⟨t12, t1, t4, t6, t8, t10, hh⟩
    dsimp only at t12 t1 t4 t6 t8 t10 hh
    subst hh
    refine Xv (fun s => s.tm 12 = .v (.string (t2R x)) ∧ s.tm 1 = .ptr h.length 0 0 ∧ s.tm 6 = .v (.string M) ∧ s.tm 8 = .v (.string U) ∧ s.tm 10 = .v (.string B) ∧ s.h = h ++ [.cells 25 6 [x.av]]) ?_ ?_
    rotate_left
    · cases e0 : Yr x.name with
      | true =>
        have e0' : (x.name.toList == ({ data := #[] } : ByteArray).toList) = true := e0
        have hv : t2R x = Kp := by rw [t2R, t1R, if_pos e0, ← eK]; exact ByteArray.empty_append
        rw [hv]
        repeat (first | (((with_reducible refine Qa fun K E hK hE => ?_)); simp -implicitDefEqProofs only [Qd, Qb, Qg, OpW, aop, AS.ev, Qc, QF, Qk, Ql0, ↓reduceIte, Nat.reduceLT, Ql2, Ql, QK, QL, aBin, QO, QlD, QlF, Yc, ti9, XT, Rl.cells, e0', t1]) | (with_reducible (first | refine Qv ?_ | refine Qf ?_)) | ((with_reducible refine hK _ ?_); clear hK) | (refine Qj rfl ?_; simp only [↓reduceIte, QlH]))
        exact ⟨t12, t1, t6, t8, t10, rfl⟩
      | false =>
        have e0' : (x.name.toList == ({ data := #[] } : ByteArray).toList) = false := e0
        have hv : t2R x = x.name ++ ({ data := #[32, 64, 32] } : ByteArray) ++ Kp := by rw [t2R, t1R, if_neg (by rw [e0]; simp), ← eK]
        have hsa1 := fun xo yo => Xl Tryz.prog 9 xo yo x.name ({ data := #[32, 64, 32] } : ByteArray) (by omega)
        have hsa2 := fun xo yo => Xl Tryz.prog 9 xo yo (x.name ++ ({ data := #[32, 64, 32] } : ByteArray)) Kp (by rw [Qt]; omega)
        rw [hv]
        repeat (first | ((first | (with_reducible (first | refine Qa fun K E hK hE => ?_ | refine Qo fun K E hK hE => ?_))); simp -implicitDefEqProofs only [Qd, Qb, Qg, OpW, aop, AS.ev, Qc, QF, Qk, Ql1, ↓reduceIte, Nat.reduceLT, Nat.reduceEqDiff, Ql2, Ql, QK, QL, aBin, QO, QlD, QlF, Yc, ti9, XT, Rl.cells, e0', t1, t4, hsa1, hsa2]) | (with_reducible refine Qf ?_) | ((with_reducible refine hK _ ?_); clear hK) | (refine Qj rfl ?_; simp only [↓reduceIte]))
        exact ⟨rfl, t1, t6, t8, t10, rfl⟩
    have w2 : (t2R x).size ≤ 100000 := by
      rw [t2R, t1R, ← eK]
      split <;> (simp only [Qt]; first | omega | (have : ByteArray.empty.size = 0 := rfl; omega))
    rintro ⟨tm, hp⟩ ⟨t12, t1, t6, t8, t10, hh⟩
    dsimp only at t12 t1 t6 t8 t10 hh
    subst hh
    -- the heads that are removed
    obtain ⟨S2, e2⟩ : ∃ S, S = t2R x := ⟨_, rfl⟩
    rw [← e2] at t12 w2
    refine Xv (fun s => s.tm 12 = .v (.string (t3R x S2)) ∧ s.tm 1 = .ptr h.length 0 0 ∧ s.tm 8 = .v (.string U) ∧ s.tm 10 = .v (.string B) ∧ s.h = h ++ [.cells 25 6 [x.av]]) ?_ ?_
    rotate_left
    · by_cases r0 : x.remove = []
      · have y0 : ((x.remove.length : Int) == 0) = true := by rw [r0]; rfl
        have hsa1 := fun xo yo => Xl Tryz.prog 9 xo yo S2 ({ data := #[32, 61, 61, 62, 32] } : ByteArray) (by omega)
        rw [t3R, if_pos r0]
        repeat (first | ((first | (with_reducible (first | refine Qa fun K E hK hE => ?_ | refine Qo fun K E hK hE => ?_))); simp -implicitDefEqProofs only [Qd, Qb, Qg, OpW, aop, AS.ev, Qc, Qq, QF, Qk, ↓reduceIte, Nat.reduceLT, Nat.reduceEqDiff, QlP, Ql, QK, QL, aBin, aLen, QO, QlD, QlE, QlF, QS, goInt, ti22, un22, X6, Rl.cells, QG, y0, t12, t1, hsa1]) | (with_reducible (first | refine Qm ?_ | refine Qf ?_ | refine Qw ?_)) | ((with_reducible refine hK _ ?_); clear hK) | (refine Qj rfl ?_; simp only [↓reduceIte]))
        exact ⟨rfl, t1, t8, t10, rfl⟩
      · have y0 : ((x.remove.length : Int) == 0) = false := by
          have := List.length_pos_iff.2 r0
          rw [beq_eq_false_iff_ne]; omega
        by_cases r1 : x.keep = []
        · have y1 : ((x.keep.length : Int) == 0) = true := by rw [r1]; rfl
          have hsa1 := fun xo yo => Xl Tryz.prog 9 xo yo S2 M (by omega)
          have hsa2 := fun xo yo => Xl Tryz.prog 9 xo yo (S2 ++ M) ({ data := #[32, 60, 61, 62, 32] } : ByteArray) (by rw [Qt]; omega)
          have hv : t3R x S2 = S2 ++ M ++ ({ data := #[32, 60, 61, 62, 32] } : ByteArray) := by rw [t3R, if_neg r0, if_pos r1, ← eM, ByteArray.append_assoc]
          rw [hv]
          repeat (first | ((first | (with_reducible (first | refine Qa fun K E hK hE => ?_ | refine Qo fun K E hK hE => ?_))); simp -implicitDefEqProofs only [Qd, Qb, Qg, OpW, aop, AS.ev, Qc, Qq, QF, Qk, ↓reduceIte, Nat.reduceLT, Nat.reduceEqDiff, QlP, Ql, QK, QL, aBin, aLen, QO, QlD, QlE, QlF, QS, goInt, ti22, un22, X7, X6, Rl.cells, QG, y0, y1, t12, t1, t6, hsa1, hsa2]) | (with_reducible (first | refine Qm ?_ | refine Qf ?_ | refine Qw ?_)) | ((with_reducible refine hK _ ?_); clear hK) | (refine Qj rfl ?_; simp only [↓reduceIte, QlH]))
          exact ⟨rfl, t1, t8, t10, rfl⟩
        · have y1 : ((x.keep.length : Int) == 0) = false := by
            have := List.length_pos_iff.2 r1
            rw [beq_eq_false_iff_ne]; omega
          have hsa1 := fun xo yo => Xl Tryz.prog 9 xo yo S2 ({ data := #[32, 92, 32] } : ByteArray) (by omega)
          have hsa2 := fun xo yo => Xl Tryz.prog 9 xo yo (S2 ++ ({ data := #[32, 92, 32] } : ByteArray)) M (by rw [Qt]; omega)
          have hsa3 := fun xo yo => Xl Tryz.prog 9 xo yo (S2 ++ ({ data := #[32, 92, 32] } : ByteArray) ++ M) ({ data := #[32, 60, 61, 62, 32] } : ByteArray) (by rw [Qt, Qt]; omega)
          have hv : t3R x S2 = S2 ++ ({ data := #[32, 92, 32] } : ByteArray) ++ M ++ ({ data := #[32, 60, 61, 62, 32] } : ByteArray) := by rw [t3R, if_neg r0, if_neg r1, ← eM]; simp only [ByteArray.append_assoc]
          rw [hv]
          repeat (first | ((first | (with_reducible (first | refine Qa fun K E hK hE => ?_ | refine Qo fun K E hK hE => ?_))); simp -implicitDefEqProofs only [Qd, Qb, Qg, OpW, aop, AS.ev, Qc, Qq, QF, Qk, ↓reduceIte, Nat.reduceLT, Nat.reduceEqDiff, QlP, Ql, QK, QL, aBin, aLen, QO, QlD, QlE, QlF, QS, goInt, ti22, un22, X7, X6, Rl.cells, QG, y0, y1, t12, t1, t6, hsa1, hsa2, hsa3]) | (with_reducible (first | refine Qm ?_ | refine Qf ?_ | refine Qw ?_)) | ((with_reducible refine hK _ ?_); clear hK) | (refine Qj rfl ?_; simp only [↓reduceIte, QlH]))
          exact ⟨rfl, t1, t8, t10, rfl⟩
    have w3 : (t3R x S2).size ≤ 300000 := by
      rw [t3R, ← eM]
      split
      · simp only [Qt]; omega
      · split <;> (simp only [Qt]; omega)
    rintro ⟨tm, hp⟩ ⟨t12, t1, t8, t10, hh⟩
    dsimp only at t12 t1 t8 t10 hh
    subst hh
    obtain ⟨S3, e3⟩ : ∃ S, S = t3R x S2 := ⟨_, rfl⟩
    rw [← e3] at t12 w3
    -- the guard
    refine Xv (fun s => s.tm 12 = .v (.string (t4R x S3)) ∧ s.tm 1 = .ptr h.length 0 0 ∧ s.tm 10 = .v (.string B) ∧ s.h = h ++ [.cells 25 6 [x.av]]) ?_ ?_
    rotate_left
    · by_cases r0 : x.guard = []
      · have y0 : ¬ (x.guard.length : Int) > 0 := by rw [r0]; simp
        rw [t4R, if_pos r0]
        repeat (first | (((with_reducible refine Qa fun K E hK hE => ?_)); simp -implicitDefEqProofs only [Qd, Qb, Qg, OpW, aop, AS.ev, Qc, Qq, Qk, ↓reduceIte, Nat.reduceLT, QlP, Ql, QK, QL, aBin, aLen, QO, QlD, QlE, QlF, Q1, goInt, Qma, ti23, un23, XR, Rl.cells, QG, y0, t1]) | (with_reducible (first | refine Qv ?_ | refine Qf ?_)) | ((with_reducible refine hK _ ?_); clear hK) | (refine Qj rfl ?_; simp only [↓reduceIte, QlH]))
        exact ⟨t12, t1, t10, rfl⟩
      · have y0 : (x.guard.length : Int) > 0 := by have := List.length_pos_iff.2 r0; omega
        have hsa1 := fun xo yo => Xl Tryz.prog 9 xo yo S3 U (by omega)
        have hsa2 := fun xo yo => Xl Tryz.prog 9 xo yo (S3 ++ U) ({ data := #[32, 124, 32] } : ByteArray) (by rw [Qt]; omega)
        have hv : t4R x S3 = S3 ++ U ++ ({ data := #[32, 124, 32] } : ByteArray) := by rw [t4R, if_neg r0, ← eU, ByteArray.append_assoc]
        rw [hv]
        repeat (first | ((first | (with_reducible (first | refine Qa fun K E hK hE => ?_ | refine Qo fun K E hK hE => ?_))); simp -implicitDefEqProofs only [Qd, Qb, Qg, OpW, aop, AS.ev, Qc, Qq, QF, Qk, ↓reduceIte, Nat.reduceLT, Nat.reduceEqDiff, QlP, Ql, QK, QL, aBin, aLen, QO, QlD, QlE, QlF, Q1, goInt, Ql9, ti23, un23, XR, Rl.cells, QG, y0, t12, t1, t8, hsa1, hsa2]) | (with_reducible refine Qf ?_) | ((with_reducible refine hK _ ?_); clear hK) | (refine Qj rfl ?_; simp only [↓reduceIte]))
        exact ⟨rfl, t1, t10, rfl⟩
    have w4 : (t4R x S3).size ≤ 600000 := by
      rw [t4R, ← eU]
      split
      · omega
      · simp only [Qt]; omega
    rintro ⟨tm, hp⟩ ⟨t12, t1, t10, hh⟩
    dsimp only at t12 t1 t10 hh
    subst hh
    obtain ⟨S4, e4⟩ : ∃ S, S = t4R x S3 := ⟨_, rfl⟩
    rw [← e4] at t12 w4
    have ebody : Qcx x = t5R x S4 ++ (B ++ ({ data := #[46] } : ByteArray)) := by rw [Qcx, e4, e3, e2, eB]
    rw [ebody] at hV
    by_cases r0 : x.body = []
    · have y0 : ((x.body.length : Int) == 0) = true := by rw [r0]; rfl
      have hsa1 := fun xo yo => Xl Tryz.prog 9 xo yo S4 ({ data := #[116, 114, 117, 101] } : ByteArray) (by omega)
      have hsa2 := fun xo yo => Xl Tryz.prog 9 xo yo (S4 ++ ({ data := #[116, 114, 117, 101] } : ByteArray)) ({ data := #[46] } : ByteArray) (by rw [Qt]; omega)
      have eB0 : B = ByteArray.empty := by rw [eB, r0]; rfl
      have cl := Qaa (S4 ++ ({ data := #[116, 114, 117, 101] } : ByteArray) ++ ({ data := #[46] } : ByteArray))
      rw [t5R, if_pos r0, eB0, show ByteArray.empty ++ ({ data := #[46] } : ByteArray) = { data := #[46] } from ByteArray.empty_append] at hV
      repeat (first | ((first | (with_reducible (first | refine Qa fun K E hK hE => ?_ | refine Qo fun K E hK hE => ?_ | refine Qs cl ?_))); simp -implicitDefEqProofs only [Qd, Qb, Qg, OpW, QR, aop, AS.ev, Qc, Qq, QF, Qk, ↓reduceIte, Nat.reduceLT, Nat.reduceEqDiff, QlP, Ql, QK, QL, aBin, aLen, QO, QlD, QlE, QlF, QlS, QlW, QS, goInt, ti23, un23, XP, Rl.cells, QG, y0, t12, t1, hsa1, hsa2]) | (with_reducible (first | refine Qi fun K hK => ?_ | refine Qn ?_ | refine Qf ?_)) | ((with_reducible refine hK _ ?_); clear hK) | (refine Qj rfl ?_; simp only [↓reduceIte]))
      simp only [QN, Qp, Qu, upd, ↓reduceIte, QlJ, QlN]; first | refine Qe (htake _ _) (.keep (.v _)) ⟨by rw [hV], rfl⟩ | refine Qe List.take_length (.keep (.v _)) ⟨by rw [hV], rfl⟩
    · have y0 : ((x.body.length : Int) == 0) = false := by
        have := List.length_pos_iff.2 r0
        rw [beq_eq_false_iff_ne]; omega
      have hsa1 := fun xo yo => Xl Tryz.prog 9 xo yo S4 B (by omega)
      have hsa2 := fun xo yo => Xl Tryz.prog 9 xo yo (S4 ++ B) ({ data := #[46] } : ByteArray) (by rw [Qt]; omega)
      have cl := Qaa (S4 ++ B ++ ({ data := #[46] } : ByteArray))
      rw [t5R, if_neg r0, ← ByteArray.append_assoc] at hV
      repeat (first | ((first | (with_reducible (first | refine Qa fun K E hK hE => ?_ | refine Qs cl ?_))); simp -implicitDefEqProofs only [Qd, Qb, Qg, OpW, QR, aop, AS.ev, Qc, Qq, QF, Qk, ↓reduceIte, Nat.reduceLT, Nat.reduceEqDiff, QlP, Ql, QK, QL, aBin, aLen, QO, QlD, QlE, QlF, QlS, QlW, QS, goInt, ti23, un23, XP, Rl.cells, QG, y0, t12, t1, t10, hsa1, hsa2]) | (with_reducible (first | refine Qi fun K hK => ?_ | refine Qn ?_ | refine Qv ?_ | refine Qf ?_)) | ((with_reducible refine hK _ ?_); clear hK) | (refine Qj rfl ?_; simp only [↓reduceIte, QlH]))
      simp only [QN, Qp, Qu, upd, ↓reduceIte, QlJ, QlN]; first | refine Qe (htake _ _) (.keep (.v _)) ⟨by rw [hV], rfl⟩ | refine Qe List.take_length (.keep (.v _)) ⟨by rw [hV], rfl⟩
theorem Qd1 (l : List G) (hl : l.length ≤ 100000) (hn : ndsG l ≤ 1000000) (ho : ∀ g ∈ l, g.ok) : Pure Tryz.prog 19 [.sl 3 (vs G.goal l) none] (.v (.string (Qaq l))) := by
    intro h
    have c : Pure Tryz.prog 43 [.sl 3 (vs G.goal l) none] (.tup [.v (.string (jGs l)), .b (l.all Q4)]) := QaL l hl hn ho
    have cl := Qaa (jG l)
    cases hv : l.all Q4 with
    | false =>
      rw [hv] at c
      have R : Qaq l = { data := #[] } := by rw [Qaq]; split <;> simp [hv]
      rw [R]
      refine Qh Tryz.func19 rfl Tryz.call19 Tryz.ntmps19 (congrArg Array.toList Tryz.results19) (by simp) ?_
      repeat (first | ((first | (with_reducible (first | refine Qa fun K E hK hE => ?_ | refine Qs c ?_))); simp -implicitDefEqProofs only [Qd, Qb, Qg, OpW, QR, aop, undef, AS.ev, Qc, Qr, QF, Qk, QD, QlK, Ql0, Ql1, ↓reduceIte, Nat.reduceLT, Nat.reduceEqDiff, Yt, QlD, QlE, QlF, QlI, QlG, QlS, QlW, Xb, beq_false]) | (with_reducible (first | refine Qi fun K hK => ?_ | refine Qn ?_ | refine QB ?_)) | ((with_reducible refine hK _ ?_); clear hK) | (refine Qj rfl ?_; simp only [↓reduceIte]))
      simp only [QN, Qp, Qu, upd, ↓reduceIte, QlJ, QlN]; first | refine Qe (htake _ _) (.keep (.v _)) ⟨rfl, rfl⟩ | refine Qe List.take_length (.keep (.v _)) ⟨rfl, rfl⟩
    | true =>
      rw [hv, jGs, if_pos hv] at c
      by_cases q : 40 < l.length
      · have z : (l.length : Int) > 40 := by omega
        rw [Qaq, if_pos q]
        refine Qh Tryz.func19 rfl Tryz.call19 Tryz.ntmps19 (congrArg Array.toList Tryz.results19) (by simp) ?_
        repeat (first | ((first | (with_reducible (first | refine Qa fun K E hK hE => ?_ | refine Qs c ?_))); simp -implicitDefEqProofs only [Qd, Qb, Qg, OpW, QR, aop, undef, AS.ev, Qc, Qq, QF, Qk, QD, QlK, Ql0, ↓reduceIte, Nat.reduceLT, Nat.reduceEqDiff, aBin, Yt, aLen, QlD, QlE, QlF, QlI, QlG, QlS, QlW, Q1, Xb, goInt, Ql9, QlL, QlH, un23, QG, z]) | (with_reducible (first | refine Qi fun K hK => ?_ | refine Qn ?_ | refine QB ?_)) | ((with_reducible refine hK _ ?_); clear hK) | (refine Qj rfl ?_; simp only [↓reduceIte]))
        simp only [QN, Qp, Qu, upd, ↓reduceIte, QlJ, QlN]; first | refine Qe (htake _ _) (.keep (.v _)) ⟨rfl, rfl⟩ | refine Qe List.take_length (.keep (.v _)) ⟨rfl, rfl⟩
      · have z : ¬ (l.length : Int) > 40 := by omega
        rw [Qaq, if_neg q, if_pos hv]
        refine Qh Tryz.func19 rfl Tryz.call19 Tryz.ntmps19 (congrArg Array.toList Tryz.results19) (by simp) ?_
        repeat (first | ((first | (with_reducible (first | refine Qa fun K E hK hE => ?_ | refine Qs c ?_ | refine Qs cl ?_))); simp -implicitDefEqProofs only [Qd, Qb, Qg, OpW, QR, aop, undef, AS.ev, Qc, Qq, QF, Qk, QD, QlK, Ql0, ↓reduceIte, Nat.reduceLT, Nat.reduceEqDiff, aBin, Yt, aLen, QlD, QlE, QlF, QlI, QlG, QlS, QlW, Q1, Xb, goInt, Qma, QlL, QlH, un23, QG, z]) | (with_reducible (first | refine Qi fun K hK => ?_ | refine Qn ?_ | refine Qv ?_ | refine Qf ?_)) | ((with_reducible refine hK _ ?_); clear hK) | (refine Qj rfl ?_; simp only [↓reduceIte, QlH]))
        simp only [QN, Qp, Qu, upd, ↓reduceIte, QlJ, QlN]; first | refine Qe (htake _ _) (.keep (.v _)) ⟨rfl, rfl⟩ | refine Qe List.take_length (.keep (.v _)) ⟨rfl, rfl⟩
end Go.Proofs.YtenheconhibonaaGreatDoor.Ab
set_option maxRecDepth 4000
namespace Go.Proofs.YtenheconhibonaaGreatDoor.Ab
open Go.Proofs
theorem QkA (l : List Dc) (d : Dc) : jD (l ++ [d]) = jD l ++ (if (true && (l.map txtD).isEmpty) = true then txtD d else YP ++ txtD d) := by
  rw [jD, jD, List.map_append]; exact Qat _ _ _
theorem Qdw (p : Pg) (hd : p.decls.length ≤ 100000) (hr : p.rules.length ≤ 100000) (ho : p.ok) (hs : ∀ r ∈ p.rules, r.small) : Pure Tryz.prog 17 [p.av] (.v (.string (Z8 p))) := by
  intro h
  obtain ⟨_, _, od, orr⟩ := ho
  by_cases q1 : 30 < p.decls.length
  · have z1 : (p.decls.length : Int) > 30 := by omega
    refine Qh Tryz.func17 rfl Tryz.call17 Tryz.ntmps17 (congrArg Array.toList Tryz.results17) (by simp) ?_
    repeat (first | (((with_reducible refine Qa fun K E hK hE => ?_)); simp -implicitDefEqProofs only [Qd, Qb, Qg, OpW, aop, undef, AS.ev, Qc, Qq, Qr, QF, Qk, QD, QlK, AV.Qk5, QlX, QlY, QI, QlZ, Ql0, ↓reduceIte, QlQ, QlR, Nat.reduceAdd, Nat.reduceLT, Nat.reduceEqDiff, QlP, Ql2, Ql, QK, QL, aBin, aLen, QO, QlD, QlE, QlF, QlI, QlG, Q1, goInt, Ql9, beq_false, ti33, un33, Y6, Pg.cells, QG, z1]) | (with_reducible (first | refine Qi fun K hK => ?_ | refine Qn ?_ | refine QB ?_)) | ((with_reducible refine hK _ ?_); clear hK) | (refine Qj rfl ?_; simp only [↓reduceIte]))
    simp only [QN, Qp, Qu, upd, ↓reduceIte, QlJ, QlN]; first | refine Qe (htake _ _) (.keep (.v _)) ⟨by rw [Z8, if_pos (.inl q1)], rfl⟩ | refine Qe List.take_length (.keep (.v _)) ⟨by rw [Z8, if_pos (.inl q1)], rfl⟩
  have z1 : ¬ (p.decls.length : Int) > 30 := by omega
  by_cases q2 : 40 < p.rules.length
  · have z2 : (p.rules.length : Int) > 40 := by omega
    refine Qh Tryz.func17 rfl Tryz.call17 Tryz.ntmps17 (congrArg Array.toList Tryz.results17) (by simp) ?_
    repeat (first | (((with_reducible refine Qa fun K E hK hE => ?_)); simp -implicitDefEqProofs only [Qd, Qb, Qg, OpW, aop, undef, AS.ev, Qc, Qq, QF, Qk, QD, QlK, AV.Qk5, QlX, QlY, QI, QlZ, ↓reduceIte, QlQ, QlR, Nat.reduceAdd, Nat.reduceLT, Nat.reduceEqDiff, QlP, Ql2, Ql, QK, QL, aBin, aLen, QO, QlD, QlE, QlF, QlI, QlG, Q1, goInt, Ql9, Qma, QlL, QlH, ti27, un27, ti33, un33, Y6, Z2, Pg.cells, QG, z1, z2]) | (with_reducible (first | refine Qi fun K hK => ?_ | refine Qn ?_ | refine QB ?_)) | ((with_reducible refine hK _ ?_); clear hK) | (refine Qj rfl ?_; simp only [↓reduceIte]))
    simp only [QN, Qp, Qu, upd, ↓reduceIte, QlJ, QlN]; first | refine Qe (htake _ _) (.keep (.v _)) ⟨by rw [Z8, if_pos (.inr q2)], rfl⟩ | refine Qe List.take_length (.keep (.v _)) ⟨by rw [Z8, if_pos (.inr q2)], rfl⟩
  have z2 : ¬ (p.rules.length : Int) > 40 := by omega
  have hno : ¬ (30 < p.decls.length ∨ 40 < p.rules.length) := by omega
  obtain ⟨V, eV⟩ : ∃ V, V = Z8 p := ⟨_, rfl⟩
  rw [← eV]
  rw [Z8, if_neg hno] at eV
  obtain ⟨D, eD⟩ : ∃ D, D = p.decls := ⟨_, rfl⟩
  obtain ⟨U, eU⟩ : ∃ D, D = p.rules := ⟨_, rfl⟩
  have epv : p.av = AV.agg [.sl 2 (vs Dc.av D) none, .sl 6 (vs Rl.av U) none] := by rw [eD, eU]; rfl
  rw [← eD, ← eU] at eV
  rw [← eD] at od hd z1 q1
  rw [← eU] at orr hs hr z2 q2
  rw [epv]
  refine Qh Tryz.func17 rfl Tryz.call17 Tryz.ntmps17 (congrArg Array.toList Tryz.results17) (by simp) ?_
  repeat (first | (((with_reducible refine Qa fun K E hK hE => ?_)); simp -implicitDefEqProofs only [Qd, Qb, Qg, OpW, aop, undef, AS.ev, Qc, Qq, QF, Qk, QD, QlK, AV.Qk5, Qy, QlX, QlY, QI, QlZ, ↓reduceIte, QlQ, QlR, Nat.reduceAdd, Nat.reduceLT, Nat.reduceEqDiff, QlP, Ql2, Ql, QK, QL, aBin, aLen, QO, QlD, QlE, QlF, QlI, QlG, Q1, goInt, Qma, QlL, QlH, ti27, un27, ti33, un33, Y6, Z2, QG, z1, z2]) | (with_reducible (first | refine Qi fun K hK => ?_ | refine Qm ?_ | refine Qv ?_ | refine Qf ?_)) | ((with_reducible refine hK _ ?_); clear hK) | (refine Qj rfl ?_; simp only [↓reduceIte, QlH]))
  obtain ⟨I, hI⟩ : ∃ I : Nat → AS → Prop, I = fun m' s => ∃ (k : Nat) (L : AH), m' = D.length - k ∧ k ≤ D.length ∧ (D.take k).all YY = true ∧ s.tm 1 = .ptr h.length 0 0 ∧ s.tm 3 = .v (.string (jD (D.take k))) ∧ s.tm 4 = .i k ∧ s.h = h ++ (AB.cells 35 2 [.agg [.sl 2 (vs Dc.av D) none, .sl 6 (vs Rl.av U) none]] :: L) := ⟨_, rfl⟩; refine Q9 I ?_ (m := D.length) ?_
  · intro m' s hs; rw [hI] at hs; obtain ⟨tm, hp⟩ := s; dsimp only at hs; obtain ⟨k, L, rfl, hk, hal, t1, t3, t4, rfl⟩ := hs
    by_cases hlt : k < D.length
    · have hg := YN Dc.av hlt
      have z9 : (k : Int) < D.length := by omega
      have hm := List.getElem_mem hlt
      obtain ⟨d, ed⟩ : ∃ d, d = D[k] := ⟨_, rfl⟩
      have hts := List.take_succ_eq_append_getElem hlt
      have od2 := od _ hm
      rw [← ed] at hg hm hts od2
      have edv : d.av = AV.agg [.v (.string d.name), .v (.int .i64 d.arity)] := rfl
      rw [edv] at hg
      have cr : Pure Tryz.prog 44 [.v (.string d.name)] (.b (Yv d.name)) := ZW d.name (by have := od2.1; simp only [maxLen]; omega)
      have fL : ∀ x : AB, (L ++ [x])[L.length]? = some x := fun x => List.getElem?_concat_length
      have fS : ∀ x y : AB, (L ++ [x]).set L.length y = L ++ [y] := fun x y => by rw [List.set_append_right _ _ (Nat.le_refl _), Nat.sub_self]; rfl
      have no : YY d = false → V = ({ data := #[] } : ByteArray) := fun h => by
        have hall : D.all YY = false := by
          rw [← Bool.not_eq_true]; intro hc
          rw [List.all_eq_true.1 hc _ hm] at h; cases h
        rw [eV, hall]; rfl
      cases hrr : Yv d.name with
      | false =>
        rw [hrr] at cr
        have hV := no (by rw [YY, hrr]; rfl)
        repeat (first | ((first | (with_reducible (first | refine Qa fun K E hK hE => ?_ | refine Qs cr ?_))); simp -implicitDefEqProofs only [Qd, Qb, Qg, OpW, QR, aop, undef, AS.ev, Qc, QY, Qr, QF, Qk, AV.Qk5, Qy, QM, QlX, QlY, QC, QA, QlZ, Ql0, Ql1, ↓reduceIte, QlQ, QlR, Nat.reduceAdd, Nat.reduceLT, Nat.reduceEqDiff, QlP, Ql2, Qmb, Ql, QK, QL, Xj, Q0, QJ, aBin, aLen, QO, hget, hset, hlen, happ, QlD, QlE, Ql7, Ql8, QlF, QlI, QlG, QlS, QlW, Ql5, QW, Xb, goInt, Ql9, Qmg, Qmf, beq_false, ti9, ti33, ei33, un33, Y6, ti38, QaM, zi38, t1, t4, z9, hg, QG, fL, fS]) | (with_reducible (first | refine Qi fun K hK => ?_ | refine Qm ?_ | refine Qn ?_ | refine Qv ?_ | refine Qf ?_ | refine QB ?_ | refine QH ?_)) | ((with_reducible refine hK _ ?_); clear hK) | (refine Qj rfl ?_; simp only [↓reduceIte]))
        simp only [QN, Qp, Qu, upd, ↓reduceIte, QlJ, QlN]; first | refine Qe (htake _ _) (.keep (.v _)) ⟨by rw [hV], rfl⟩ | refine Qe List.take_length (.keep (.v _)) ⟨by rw [hV], rfl⟩
      | true =>
      rw [hrr] at cr
      by_cases a0 : d.arity < 0
      · have hV := no (by rw [YY, decide_eq_false (by omega), Bool.and_false])
        repeat (first | ((first | (with_reducible (first | refine Qa fun K E hK hE => ?_ | refine Qs cr ?_))); simp -implicitDefEqProofs only [Qd, Qb, Qg, OpW, QR, aop, undef, AS.ev, Qc, QY, Qq, Qr, QF, Qk, AV.Qk5, Qy, QM, QlX, QlY, QC, QA, QlZ, Ql0, ↓reduceIte, QlQ, QlR, Nat.reduceAdd, Nat.reduceLT, Nat.reduceEqDiff, QlP, Ql2, Qmb, Ql, QK, QL, Xj, Q0, QJ, aBin, aLen, QO, hget, hset, hlen, happ, QlD, QlE, Ql7, Ql8, QlF, QlI, QlG, QlS, QlW, Ql5, QW, Xb, goInt, Ql9, QlL, Qmg, Qmf, QlH, beq_false, ti3, ti9, ti33, ei33, un33, Y6, ti38, QaM, QcD, zi38, t1, t4, z9, hg, QG, fL, fS, a0]) | (with_reducible (first | refine Qi fun K hK => ?_ | refine Qm ?_ | refine Qn ?_ | refine Qv ?_ | refine Qf ?_ | refine QB ?_ | refine QH ?_)) | ((with_reducible refine hK _ ?_); clear hK) | (refine Qj rfl ?_; simp only [↓reduceIte]))
        simp only [QN, Qp, Qu, upd, ↓reduceIte, QlJ, QlN]; first | refine Qe (htake _ _) (.keep (.v _)) ⟨by rw [hV], rfl⟩ | refine Qe List.take_length (.keep (.v _)) ⟨by rw [hV], rfl⟩
      by_cases a6 : d.arity > 6
      · have hV := no (by rw [YY, decide_eq_false (by omega), Bool.and_false])
        repeat (first | ((first | (with_reducible (first | refine Qa fun K E hK hE => ?_ | refine Qs cr ?_))); simp -implicitDefEqProofs only [Qd, Qb, Qg, OpW, QR, aop, undef, AS.ev, Qc, QY, Qq, QF, Qk, AV.Qk5, Qy, QM, QlX, QlY, QC, QA, QlZ, Ql0, ↓reduceIte, QlQ, QlR, Nat.reduceAdd, Nat.reduceLT, Nat.reduceEqDiff, QlP, Ql2, Qmb, Ql, QK, QL, Xj, Q0, QJ, aBin, aLen, QO, hget, hset, hlen, happ, QlD, QlE, Ql7, Ql8, QlF, QlI, QlG, QlS, QlW, Ql5, QW, Q1, Xb, goInt, Ql9, Qma, QlL, Qmg, Qmf, QlH, ti3, ti9, ti33, ei33, un33, Y6, ti38, QaM, QcD, zi38, t1, t4, z9, hg, QG, fL, fS, a0, a6]) | (with_reducible (first | refine Qi fun K hK => ?_ | refine Qm ?_ | refine Qn ?_ | refine Qv ?_ | refine Qf ?_ | refine QB ?_ | refine QH ?_)) | ((with_reducible refine hK _ ?_); clear hK) | (refine Qj rfl ?_; simp only [↓reduceIte]))
        simp only [QN, Qp, Qu, upd, ↓reduceIte, QlJ, QlN]; first | refine Qe (htake _ _) (.keep (.v _)) ⟨by rw [hV], rfl⟩ | refine Qe List.take_length (.keep (.v _)) ⟨by rw [hV], rfl⟩
      have hrd : YY d = true := by rw [YY, hrr, decide_eq_true (by omega)]; rfl
      have cd := Qhr d.arity (by omega) (by omega)
      have hall : (D.take (k + 1)).all YY = true := by rw [hts, List.all_append, hal]; simp [hrd]
      have hj := QkA (D.take k) d
      rw [← hts] at hj
      have hj1 := QgY hal
      have hlk : (D.take k).length ≤ 100000 := by rw [List.length_take]; omega
      have hnm := (Y1 hrr).2
      have hzs := Qb4 d.arity (by omega) (by omega)
      obtain ⟨J, eJ⟩ : ∃ J, J = jD (D.take k) := ⟨_, rfl⟩
      rw [← eJ] at t3 hj1 hj
      rw [txtD] at hj
      obtain ⟨X, eX⟩ : ∃ X, X = decZ d.arity := ⟨_, rfl⟩
      rw [← eX] at cd hj hzs
      have hsc : ({ data := #[44, 32] } : ByteArray).size = 2 := rfl
      have hsc1 : ({ data := #[47] } : ByteArray).size = 1 := rfl
      by_cases k0 : k = 0
      · have z0 : ¬ (k : Int) > 0 := by omega
        have hj' : jD (D.take (k + 1)) = J ++ d.name ++ ({ data := #[47] } : ByteArray) ++ X := by
          have hem : ((D.take k).map txtD).isEmpty = true := by rw [k0]; rfl
          rw [hj, hem]
          show J ++ (d.name ++ slB ++ X) = _
          simp only [ByteArray.append_assoc]
        have hsa1 := fun xo yo => Xl Tryz.prog 9 xo yo J d.name (by omega)
        have hsa2 := fun xo yo => Xl Tryz.prog 9 xo yo (J ++ d.name) ({ data := #[47] } : ByteArray) (by rw [Qt]; omega)
        have hsa3 := fun xo yo => Xl Tryz.prog 9 xo yo (J ++ d.name ++ ({ data := #[47] } : ByteArray)) X (by rw [Qt, Qt]; omega)
        repeat (first | ((first | (with_reducible (first | refine Qa fun K E hK hE => ?_ | refine Qo fun K E hK hE => ?_ | refine Qs cr ?_ | refine QQ cd ?_)) | (refine XH (id := 12) [(0, 0), (1, 0), (2, 0), (3, 0), (4, 0), (5, 0), (6, 0), (7, 1), (8, 0), (9, 0)] mixed (by kernel_rfl) fun K hK => ?_)); simp -implicitDefEqProofs only [Xk, Xd, Xw, Qd, Qb, Qg, OpW, QR, aop, undef, AS.ev, Qc, QY, Qq, QF, Qk, AV.Qk5, Qy, QM, QlX, QlY, QC, QA, QlZ, Ql0, ↓reduceIte, QlQ, QlR, Nat.reduceAdd, Nat.reduceLT, Nat.reduceLeDiff, Nat.reduceEqDiff, QlP, Ql2, Qmb, Ql, QK, QL, Xj, Q0, QJ, aBin, aLen, QO, hget, hset, hlen, happ, QlD, QlE, Ql7, Ql8, QlF, QlI, QlG, QlS, QlW, Ql5, QW, Q1, Xf, Xb, goInt, Ql9, Qma, QlL, Qmg, Qmf, QlH, ti3, ti9, ti33, ei33, un33, Y6, ti38, QaM, QcD, zi38, t1, t3, t4, z9, z0, hg, QG, fL, fS, a0, a6, hsa1, hsa2, hsa3]) | (with_reducible (first | refine Qi fun K hK => ?_ | refine Qm ?_ | refine Qv ?_ | refine Qf ?_ | refine Qw ?_)) | ((with_reducible refine hK _ ?_); clear hK) | (refine Qj rfl ?_; simp only [↓reduceIte, QlH]))
        refine XD.mk (m' := D.length - (k + 1)) (by omega) ?_
        rw [hI]
        refine ⟨k + 1, _, rfl, hlt, hall, t1, ?_, ?_, rfl⟩
        · simp only [upd, ↓reduceIte, Nat.reduceEqDiff]
          rw [hj']
        · simp only [upd, ↓reduceIte]
          rw [Xe (by omega)]
      · have z0 : (k : Int) > 0 := by omega
        have hj' : jD (D.take (k + 1)) = J ++ ({ data := #[44, 32] } : ByteArray) ++ d.name ++ ({ data := #[47] } : ByteArray) ++ X := by
          have hne : ((D.take k).map txtD).isEmpty = false := by
            cases hh : (D.take k).map txtD with
            | nil => have := congrArg List.length hh; rw [List.length_map, List.length_take] at this; simp only [QlR] at this; omega
            | cons => rfl
          rw [hj, hne]
          show J ++ (YP ++ (d.name ++ slB ++ X)) = _
          simp only [ByteArray.append_assoc]
        have hsa0 := fun xo yo => Xl Tryz.prog 9 xo yo J ({ data := #[44, 32] } : ByteArray) (by omega)
        have hsa1 := fun xo yo => Xl Tryz.prog 9 xo yo (J ++ ({ data := #[44, 32] } : ByteArray)) d.name (by rw [Qt]; omega)
        have hsa2 := fun xo yo => Xl Tryz.prog 9 xo yo (J ++ ({ data := #[44, 32] } : ByteArray) ++ d.name) ({ data := #[47] } : ByteArray) (by rw [Qt, Qt]; omega)
        have hsa3 := fun xo yo => Xl Tryz.prog 9 xo yo (J ++ ({ data := #[44, 32] } : ByteArray) ++ d.name ++ ({ data := #[47] } : ByteArray)) X (by rw [Qt, Qt, Qt]; omega)
        repeat (first | ((first | (with_reducible (first | refine Qa fun K E hK hE => ?_ | refine Qo fun K E hK hE => ?_ | refine Qs cr ?_ | refine QQ cd ?_)) | (refine XH (id := 12) [(0, 0), (1, 0), (2, 0), (3, 0), (4, 0), (5, 0), (6, 0), (7, 1), (8, 0), (9, 0)] mixed (by kernel_rfl) fun K hK => ?_)); simp -implicitDefEqProofs only [Xk, Xd, Xw, Qd, Qb, Qg, OpW, QR, aop, undef, AS.ev, Qc, QY, Qq, QF, Qk, AV.Qk5, Qy, QM, QlX, QlY, QC, QA, QlZ, Ql0, ↓reduceIte, QlQ, QlR, Nat.reduceAdd, Nat.reduceLT, Nat.reduceLeDiff, Nat.reduceEqDiff, QlP, Ql2, Qmb, Ql, QK, QL, Xj, Q0, QJ, aBin, aLen, QO, hget, hset, hlen, happ, QlD, QlE, Ql7, Ql8, QlF, QlI, QlG, QlS, QlW, Ql5, QW, Q1, Xf, Xb, goInt, Ql9, Qma, QlL, Qmg, Qmf, QlH, ti3, ti9, ti33, ei33, un33, Y6, ti38, QaM, QcD, zi38, t1, t3, t4, z9, z0, hg, QG, fL, fS, a0, a6, hsa0, hsa1, hsa2, hsa3]) | (with_reducible (first | refine Qi fun K hK => ?_ | refine Qm ?_ | refine Qv ?_ | refine Qf ?_ | refine Qw ?_)) | ((with_reducible refine hK _ ?_); clear hK) | (refine Qj rfl ?_; simp only [↓reduceIte, QlH]))
        refine XD.mk (m' := D.length - (k + 1)) (by omega) ?_
        rw [hI]
        refine ⟨k + 1, _, rfl, hlt, hall, t1, ?_, ?_, rfl⟩
        · simp only [upd, ↓reduceIte, Nat.reduceEqDiff]
          rw [hj']
        · simp only [upd, ↓reduceIte]
          rw [Xe (by omega)]
    · have z9 : ¬ (k : Int) < D.length := by omega
      have hkl : k = D.length := by omega
      rw [hkl, List.take_length] at t3 hal
      rw [hal, if_pos rfl] at eV
      have k1 := QgY hal
      have hb1 : conB.size = 11 := rfl
      have hb2 : endB.size = 2 := rfl
      have hb3 : nlB.size = 1 := rfl
      have hb3' : ({ data := #[10] } : ByteArray).size = 1 := rfl
      have sdc : (Qbx D).size ≤ 2000000000 := by
        rw [Qbx]; split
        · decide
        · simp only [Qt]; omega
      iterate 10 (try (first | (((with_reducible refine Qa fun K E hK hE => ?_)); simp -implicitDefEqProofs only [Qd, Qb, Qg, OpW, aop, AS.ev, Qc, Qk, Qy, ↓reduceIte, Nat.reduceLT, Nat.reduceEqDiff, Ql2, Ql, QK, QL, aBin, aLen, QO, QlD, QlF, QW, goInt, Qma, ti33, un33, Y6, t1, t4, z9, QG]) | (with_reducible (first | refine Qi fun K hK => ?_ | refine Q2 ?_ | refine Qf ?_ | refine QU ?_ | refine QV ?_)) | ((with_reducible refine hK _ ?_); clear hK) | (clear hK; (with_reducible refine hK _ ?_); clear hK) | (refine Qj rfl ?_; simp only [↓reduceIte, QlH])))
      refine Xv (fun s => s.tm 1 = .ptr h.length 0 0 ∧ s.tm 3 = .v (.string (Qbx D)) ∧ s.h = h ++ (AB.cells 35 2 [.agg [.sl 2 (vs Dc.av D) none, .sl 6 (vs Rl.av U) none]] :: L)) ?_ ?_
      rotate_left
      · by_cases d0 : D = []
        · have y0 : ¬ (D.length : Int) > 0 := by rw [d0]; simp
          have e : Qbx D = jD D := by rw [d0]; rfl
          repeat (first | (((with_reducible refine Qa fun K E hK hE => ?_)); simp -implicitDefEqProofs only [Qd, Qb, Qg, OpW, aop, AS.ev, Qc, Qq, Qk, Qy, ↓reduceIte, Nat.reduceLT, Nat.reduceEqDiff, Ql2, Ql, QK, QL, aBin, aLen, QO, QlD, QlF, Q1, goInt, Qma, ti33, un33, Y6, t1, y0, QG]) | (with_reducible (first | refine Qv ?_ | refine Qf ?_)) | ((with_reducible refine hK _ ?_); clear hK) | (refine Qj rfl ?_; simp only [↓reduceIte, QlH]))
          exact ⟨t1, by rw [e]; exact t3, rfl⟩
        · have y0 : (D.length : Int) > 0 := by have := List.length_pos_iff.2 d0; omega
          have e : Qbx D = (conB ++ jD D) ++ endB := by rw [Qbx, if_neg d0]
          have hsa1 := fun xo yo => Xl Tryz.prog 9 xo yo conB (jD D) (by omega)
          have hsa2 := fun xo yo => Xl Tryz.prog 9 xo yo (conB ++ jD D) endB (by rw [Qt]; omega)
          repeat (first | ((first | (with_reducible (first | refine Qa fun K E hK hE => ?_ | refine Qo fun K E hK hE => ?_))); simp -implicitDefEqProofs only [Qd, Qb, Qg, OpW, aop, AS.ev, Qc, Qq, QF, Qk, Qy, ↓reduceIte, Nat.reduceLT, Nat.reduceEqDiff, Ql2, Ql, QK, QL, aBin, aLen, QO, QlD, QlF, Q1, goInt, Ql9, ti33, un33, Y6, t1, t3, y0, QG, hsa1, hsa2]) | (with_reducible refine Qf ?_) | ((with_reducible refine hK _ ?_); clear hK) | (refine Qj rfl ?_; simp only [↓reduceIte]))
          exact ⟨t1, by rw [e]; rfl, rfl⟩
      rintro ⟨tm, hp⟩ ⟨t1, t3, hh⟩
      dsimp only at t1 t3 hh
      subst hh
      obtain ⟨S0, eS⟩ : ∃ S, S = Qbx D := ⟨_, rfl⟩
      rw [← eS] at t3 sdc eV
      clear hI
      repeat (first | (((with_reducible refine Qa fun K E hK hE => ?_)); simp -implicitDefEqProofs only [Qd, Qb, Qg, OpW, aop, AS.ev, Qc, Qq, Nat.reduceLT]) | (with_reducible (first | refine Qi fun K hK => ?_ | refine Qm ?_)) | ((with_reducible refine hK _ ?_); clear hK))
      obtain ⟨I, hI⟩ : ∃ I : Nat → AS → Prop, I = fun m' s => ∃ (k : Nat) (cur : ByteArray), m' = U.length - k ∧ k ≤ U.length ∧ ZH (U.take k) = true ∧ cur ++ Qby (U.drop k) = S0 ++ Qby U ∧ cur.size ≤ 2000000000 + 16385 * k ∧ s.tm 1 = .ptr h.length 0 0 ∧ s.tm 3 = .v (.string cur) ∧ s.tm 6 = .i k ∧ s.h = h ++ (AB.cells 35 2 [.agg [.sl 2 (vs Dc.av D) none, .sl 6 (vs Rl.av U) none]] :: L) := ⟨_, rfl⟩; refine Q9 I ?_ (m := U.length) ?_
      · intro m' s hs; rw [hI] at hs; obtain ⟨tm, hp⟩ := s; dsimp only at hs; obtain ⟨k, cur, rfl, hk, hal2, he, hcs, t1, t3, t6, rfl⟩ := hs
        by_cases hlt : k < U.length
        · have hg := YN Rl.av hlt
          have z8 : (k : Int) < U.length := by omega
          have hm := List.getElem_mem hlt
          have c := QcT U[k] (hs _ hm) (orr _ hm)
          have hts := List.take_succ_eq_append_getElem hlt
          rw [List.drop_eq_getElem_cons hlt, Qby] at he
          have hrs := Qeg U[k]
          cases hem : Yr (Z9 U[k]) with
          | true =>
            have hem' : ((Z9 U[k]).toList == ({ data := #[] } : ByteArray).toList) = true := hem
            have hV : V = ({ data := #[] } : ByteArray) := by
              have : ZH U = false := by
                rw [← Bool.not_eq_true]; intro hc
                rw [ZH] at hc
                have := List.all_eq_true.1 hc _ hm
                rw [hem] at this; cases this
              rw [eV, this]; rfl
            repeat (first | ((first | (with_reducible (first | refine Qa fun K E hK hE => ?_ | refine Qs c ?_))); simp -implicitDefEqProofs only [Qd, Qb, Qg, OpW, QR, aop, AS.ev, Qc, QF, Qk, Qy, ↓reduceIte, QlQ, QlR, Nat.reduceAdd, Nat.reduceLT, Nat.reduceEqDiff, QlP, Qmb, Ql, QK, QL, QJ, aBin, aLen, QO, QlD, QlE, QlF, QlS, QlW, QW, QZ, goInt, Ql9, Qmg, Qmf, ti25, ti27, ei27, un27, Z2, t1, t6, z8, hg, QG, hem', Rl.cells, Rl.isAgg]) | (with_reducible (first | refine Qi fun K hK => ?_ | refine Qm ?_ | refine Qn ?_ | refine Qv ?_ | refine Qf ?_ | refine QB ?_ | refine QH ?_)) | ((with_reducible refine hK _ ?_); clear hK) | (refine Qj rfl ?_; simp only [↓reduceIte]))
            simp only [QN, Qp, Qu, upd, ↓reduceIte, QlJ, QlN]; first | refine Qe (htake _ _) (.keep (.v _)) ⟨by rw [hV], rfl⟩ | refine Qe List.take_length (.keep (.v _)) ⟨by rw [hV], rfl⟩
          | false =>
            have hem' : ((Z9 U[k]).toList == ({ data := #[] } : ByteArray).toList) = false := hem
            have hsa1 := fun xo yo => Xl Tryz.prog 9 xo yo cur (Z9 U[k]) (by omega)
            have hsa2 := fun xo yo => Xl Tryz.prog 9 xo yo (cur ++ Z9 U[k]) ({ data := #[10] } : ByteArray) (by rw [Qt]; omega)
            repeat (first | ((first | (with_reducible (first | refine Qa fun K E hK hE => ?_ | refine Qo fun K E hK hE => ?_ | refine Qs c ?_))); simp -implicitDefEqProofs only [Qd, Qb, Qg, OpW, QR, aop, AS.ev, Qc, Qq, QF, Qk, Qy, ↓reduceIte, QlQ, QlR, Nat.reduceAdd, Nat.reduceLT, Nat.reduceEqDiff, QlP, Qmb, Ql, QK, QL, QJ, aBin, aLen, QO, QlD, QlE, QlF, QlS, QlW, QW, Xf, QZ, goInt, Ql9, Qmg, Qmf, ti25, ti27, ei27, un27, Z2, t1, t3, t6, z8, hg, QG, hem', hsa1, hsa2, Rl.cells, Rl.isAgg]) | (with_reducible (first | refine Qi fun K hK => ?_ | refine Qm ?_ | refine Qv ?_ | refine Qf ?_ | refine Qw ?_)) | ((with_reducible refine hK _ ?_); clear hK) | (refine Qj rfl ?_; simp only [↓reduceIte, QlH]))
            refine XD.mk (m' := U.length - (k + 1)) (by omega) ?_
            rw [hI]
            refine ⟨k + 1, (cur ++ Z9 U[k]) ++ nlB, rfl, hlt, ?_, ?_, by rw [Qt, Qt]; omega, t1, rfl, ?_, rfl⟩
            · rw [ZH] at hal2 ⊢
              rw [hts, List.all_append, hal2]; simp [hem]
            · simp only [ByteArray.append_assoc] at he ⊢; exact he
            · simp only [upd, ↓reduceIte]
              rw [Xe (by omega)]
        · have z8 : ¬ (k : Int) < U.length := by omega
          have hkl : k = U.length := by omega
          rw [hkl, List.take_length] at hal2
          rw [hkl, List.drop_length, Qby, ByteArray.append_empty] at he
          have cl := Qaa cur
          have hV : V = ZV cur := by rw [eV, hal2, if_pos rfl, he]
          repeat (first | ((first | (with_reducible (first | refine Qa fun K E hK hE => ?_ | refine Qs cl ?_))); simp -implicitDefEqProofs only [Qd, Qb, Qg, OpW, QR, aop, AS.ev, Qc, Qk, Qy, ↓reduceIte, Nat.reduceLT, Nat.reduceEqDiff, QlP, Ql, QK, QL, aBin, aLen, QO, QlD, QlE, QlF, QlS, QlW, QW, goInt, Qma, ti27, un27, Z2, t1, t3, t6, z8, QG]) | (with_reducible (first | refine Qi fun K hK => ?_ | refine Qn ?_ | refine Q2 ?_ | refine Qf ?_ | refine QU ?_ | refine QV ?_)) | ((with_reducible refine hK _ ?_); clear hK) | (clear hK; (with_reducible refine hK _ ?_); clear hK) | (refine Qj rfl ?_; simp only [↓reduceIte, QlH]))
          simp only [QN, Qp, Qu, upd, ↓reduceIte, QlJ, QlN]; first | refine Qe (htake _ _) (.keep (.v _)) ⟨by rw [hV], rfl⟩ | refine Qe List.take_length (.keep (.v _)) ⟨by rw [hV], rfl⟩
      · rw [hI]
        exact ⟨0, S0, by omega, Nat.zero_le _, rfl, by rw [List.drop_zero], by omega, t1, t3, rfl, rfl⟩
  · rw [hI]
    exact ⟨0, [], by omega, Nat.zero_le _, rfl, rfl, rfl, rfl, rfl⟩
end Go.Proofs.YtenheconhibonaaGreatDoor.Ab
set_option maxRecDepth 4000
namespace Go.Proofs.YtenheconhibonaaGreatDoor.Ab
open Go.Proofs
theorem Qk3 (r : Rl) (ho : r.ok) (h : AH) (hG : XO h) : Yd Tryz.prog 3 [r.av] h fun o h' => o = .ret (.b true) ∧ h' = h := by
  have c0 := QdT [r] (by intro x hx; rw [List.mem_singleton.1 hx]; exact ho) (by simp)
  rw [QkZ] at c0
  have ce := fun L => QcR (h ++ L) (hG.app L)
  obtain ⟨b0, hb0⟩ : ∃ b, b = Qcc [r] := ⟨_, rfl⟩
  rw [← hb0] at c0
  cases b0 with
  | true =>
    refine Qh Tryz.func3 rfl Tryz.call3 Tryz.ntmps3 (congrArg Array.toList Tryz.results3) (by simp) ?_
    repeat (first | ((first | (with_reducible (first | refine Qa fun K E hK hE => ?_ | refine Qs c0 ?_ | refine FunW.ret (FunW.call (ce _)) ?_))); simp -implicitDefEqProofs only [Qd, Qb, Qg, OpW, QR, aop, undef, AS.ev, Qc, Qr, Qk, QD, QlK, AV.Qk5, Qy, QlX, QlY, QC, QA, QP, QI, QlZ, ↓reduceIte, QlQ, QlR, Nat.reduceAdd, Nat.reduceLT, Nat.reduceLeDiff, Nat.reduceEqDiff, Nat.reduceMul, QlP, Qmb, QK, QL, Q7, QO, QlD, QlF, QlS, QlW, QlL, rng1, Xa, Nat.reducePow, ti25, zi25, ei27, Rl.cells, Rl.isAgg]) | (with_reducible (first | refine Qi fun K hK => ?_ | refine Qn ?_ | refine QB ?_)) | ((with_reducible refine hK _ ?_); clear hK) | (refine Qj rfl ?_; simp only [↓reduceIte]))
    simp only [QN, Qp, Qu, upd, ↓reduceIte, QlJ, QlN]; first | refine Qe (htake _ _) (.keep (.v _)) ⟨rfl, rfl⟩ | refine Qe List.take_length (.keep (.v _)) ⟨rfl, rfl⟩
  | false =>
  have hg : Zx r = false := by
    simp only [Qcc, List.any_cons, List.any_nil, Bool.or_false] at hb0
    exact (Bool.or_eq_false_iff.1 hb0.symm).2
  have hs := Qhp hg
  have hx := Qgd hs
  obtain ⟨a1, a2, a3, a4, a5⟩ := hs.fits
  have c1 := fun L => Qb8 r a1 a2 a3 a4 a5 (h ++ L) (hG.app L)
  have c2 := QcT r hs ho
  have c3 := QbO r a1 a2 a3 a4 a5
  have c4 := QbB r hs
  have c5 := QeM (numR r) hx.gNs
  refine Qh Tryz.func3 rfl Tryz.call3 Tryz.ntmps3 (congrArg Array.toList Tryz.results3) (by simp) ?_
  repeat (first | ((first | (with_reducible (first | refine Qa fun K E hK hE => ?_ | refine Qs c0 ?_ | refine QQ c2 ?_ | refine QQ c3 ?_ | refine QQ c4 ?_ | refine QQ c5 ?_ | refine XL (FunW.call (c1 _)) (ZR _) ?_ | refine XL (FunW.call (ce _)) (ZR _) ?_)) | (refine QX (id := 3) [(0, 0), (2, 0), (1, 3), (3, 1), (4, 0), (5, 0), (6, 0), (7, 1), (8, 0), (9, 1), (10, 1), (11, 0), (12, 0), (13, 3), (14, 0), (15, 0)] mixed (by kernel_rfl) fun K hK => ?_)); simp -implicitDefEqProofs only [Xk, Xd, Xw, Qd, Qb, Qg, OpW, QR, aop, undef, AS.ev, Qc, Qr, Qk, QD, QlK, AV.Qk5, Qy, QlX, QlY, QC, QA, QP, QI, QlZ, ↓reduceIte, QlQ, QlR, Nat.reduceAdd, Nat.reduceLT, Nat.reduceLeDiff, Nat.reduceEqDiff, Nat.reduceMul, QlP, Qmb, QK, QL, aBin, Q7, QO, QlD, QlE, QlF, QlI, QlG, QlS, QlW, QZ, QlL, rng1, Xa, Nat.reducePow, ti25, zi25, ei27, Rl.cells, Rl.isAgg]) | (with_reducible (first | refine Qi fun K hK => ?_ | refine Qn ?_ | refine Qv ?_ | refine Qf ?_)) | ((with_reducible refine hK _ ?_); clear hK) | (refine Qj rfl ?_; simp only [↓reduceIte, QlH]))
  simp only [QN, Qp, Qu, upd, ↓reduceIte, QlJ, QlN]; first | refine Qe (htake _ _) (.keep (.v _)) ⟨rfl, rfl⟩ | refine Qe List.take_length (.keep (.v _)) ⟨rfl, rfl⟩
theorem Qk2 (p : Pg) (l : List G) (hp : p.ok) (hl : l.length ≤ 9223372036854775807) (hg : ∀ g ∈ l, g.ok) (h : AH) (hG : XO h) : Yd Tryz.prog 4 [p.av, .sl 3 (vs G.goal l) none] h fun o h' => o = .ret (.b true) ∧ h' = h := by
  have c0 := QdT p.rules hp.2.2.2 hp.2.1
  have ce := fun L => QcR (h ++ L) (hG.app L)
  obtain ⟨D, eD⟩ : ∃ D, D = p.decls := ⟨_, rfl⟩
  have epv : p.av = AV.agg [.sl 2 (vs Dc.av D) none, .sl 6 (vs Rl.av p.rules) none] := by rw [eD]; rfl
  obtain ⟨b0, hb0⟩ : ∃ b, b = Qcc p.rules := ⟨_, rfl⟩
  rw [← hb0] at c0
  rw [epv]
  cases b0 with
  | true =>
    refine Qh Tryz.func4 rfl Tryz.call4 Tryz.ntmps4 (congrArg Array.toList Tryz.results4) (by simp) ?_
    repeat (first | ((first | (with_reducible (first | refine Qa fun K E hK hE => ?_ | refine Qs c0 ?_ | refine FunW.ret (FunW.call (ce _)) ?_))); simp -implicitDefEqProofs only [Qd, Qb, Qg, OpW, QR, aop, undef, AS.ev, Qc, Qr, Qk, QD, QlK, AV.Qk5, Qy, QlX, QlY, QI, QlZ, Ql0, ↓reduceIte, QlQ, QlR, Nat.reduceAdd, Nat.reduceLT, Nat.reduceEqDiff, QlP, Ql, QK, QL, QO, QlD, QlE, QlF, QlI, QlG, QlS, QlW, beq_false, ti27, Z2]) | (with_reducible (first | refine Qi fun K hK => ?_ | refine Qn ?_ | refine QB ?_)) | ((with_reducible refine hK _ ?_); clear hK) | (refine Qj rfl ?_; simp only [↓reduceIte]))
    simp only [QN, Qp, Qu, upd, ↓reduceIte, QlJ, QlN]; first | refine Qe (htake _ _) (.keep (.v _)) ⟨rfl, rfl⟩ | refine Qe List.take_length (.keep (.v _)) ⟨rfl, rfl⟩
  | false =>
  by_cases q1 : (D.length : Int) > 60
  · refine Qh Tryz.func4 rfl Tryz.call4 Tryz.ntmps4 (congrArg Array.toList Tryz.results4) (by simp) ?_
    repeat (first | ((first | (with_reducible (first | refine Qa fun K E hK hE => ?_ | refine Qs c0 ?_ | refine FunW.ret (FunW.call (ce _)) ?_))); simp -implicitDefEqProofs only [Qd, Qb, Qg, OpW, QR, aop, undef, AS.ev, Qc, Qq, Qr, Qk, QD, QlK, AV.Qk5, Qy, QlX, QlY, QI, QlZ, Ql0, ↓reduceIte, QlQ, QlR, Nat.reduceAdd, Nat.reduceLT, Nat.reduceEqDiff, QlP, Ql2, Ql, QK, QL, aBin, aLen, QO, QlD, QlE, QlF, QlI, QlG, QlS, QlW, Q1, goInt, Ql9, QlL, QlH, beq_false, ti27, ti33, un33, Y6, Z2, QG, q1]) | (with_reducible (first | refine Qi fun K hK => ?_ | refine Qn ?_ | refine QB ?_)) | ((with_reducible refine hK _ ?_); clear hK) | (refine Qj rfl ?_; simp only [↓reduceIte]))
    simp only [QN, Qp, Qu, upd, ↓reduceIte, QlJ, QlN]; first | refine Qe (htake _ _) (.keep (.v _)) ⟨rfl, rfl⟩ | refine Qe List.take_length (.keep (.v _)) ⟨rfl, rfl⟩
  by_cases q2 : (l.length : Int) > 60
  · refine Qh Tryz.func4 rfl Tryz.call4 Tryz.ntmps4 (congrArg Array.toList Tryz.results4) (by simp) ?_
    repeat (first | ((first | (with_reducible (first | refine Qa fun K E hK hE => ?_ | refine Qs c0 ?_ | refine FunW.ret (FunW.call (ce _)) ?_))); simp -implicitDefEqProofs only [Qd, Qb, Qg, OpW, QR, aop, undef, AS.ev, Qc, Qq, Qr, Qk, QD, QlK, Ql3, AV.Qk5, Qy, QlX, QlY, QI, QlZ, Ql0, ↓reduceIte, QlQ, QlR, Nat.reduceAdd, Nat.reduceLT, Nat.reduceEqDiff, QlP, Ql2, Ql, QK, QL, aBin, aLen, QO, QlD, QlE, QlF, QlI, QlG, QlS, QlW, Q1, goInt, Ql9, Qma, QlL, QlH, beq_false, un23, ti27, ti33, un33, Y6, Z2, QG, q1, q2]) | (with_reducible (first | refine Qi fun K hK => ?_ | refine Qn ?_ | refine QB ?_)) | ((with_reducible refine hK _ ?_); clear hK) | (refine Qj rfl ?_; simp only [↓reduceIte]))
    simp only [QN, Qp, Qu, upd, ↓reduceIte, QlJ, QlN]; first | refine Qe (htake _ _) (.keep (.v _)) ⟨rfl, rfl⟩ | refine Qe List.take_length (.keep (.v _)) ⟨rfl, rfl⟩
  have c1 := Z7 l 600 hg (by omega) (by omega) (by omega)
  cases q3 : decide (Yu l 600 < 0) with
  | true =>
    rw [q3] at c1
    refine Qh Tryz.func4 rfl Tryz.call4 Tryz.ntmps4 (congrArg Array.toList Tryz.results4) (by simp) ?_
    repeat (first | ((first | (with_reducible (first | refine Qa fun K E hK hE => ?_ | refine Qs c0 ?_ | refine Qs c1 ?_ | refine FunW.ret (FunW.call (ce _)) ?_))); simp -implicitDefEqProofs only [Qd, Qb, Qg, OpW, QR, aop, undef, AS.ev, Qc, Qq, Qr, Qk, QD, QlK, Ql3, AV.Qk5, Qy, QlX, QlY, QI, QlZ, ↓reduceIte, QlQ, QlR, Nat.reduceAdd, Nat.reduceLT, Nat.reduceEqDiff, QlP, Ql2, Ql, QK, QL, aBin, aLen, QO, QlD, QlE, QlF, QlI, QlG, QlS, QlW, Q1, goInt, Qma, QlL, QlH, un23, ti27, ti33, un33, Y6, Z2, QG, q1, q2]) | (with_reducible (first | refine Qi fun K hK => ?_ | refine Qn ?_ | refine QB ?_)) | ((with_reducible refine hK _ ?_); clear hK) | (refine Qj rfl ?_; simp only [↓reduceIte]))
    simp only [QN, Qp, Qu, upd, ↓reduceIte, QlJ, QlN]; first | refine Qe (htake _ _) (.keep (.v _)) ⟨rfl, rfl⟩ | refine Qe List.take_length (.keep (.v _)) ⟨rfl, rfl⟩
  | false =>
  rw [q3] at c1
  have q3' := of_decide_eq_false q3
  have hn := QdE l 600 (by omega)
  have hru : p.rules.length ≤ 45 ∧ ∀ r ∈ p.rules, r.small := by
    rw [Qcc] at hb0
    have := Bool.or_eq_false_iff.1 hb0.symm
    refine ⟨by have := of_decide_eq_false this.1; omega, fun r hr => Qhp ?_⟩
    rw [← Bool.not_eq_true]; intro hc
    have h2 := this.2
    rw [List.any_eq_false] at h2
    exact h2 r hr hc
  have d1 := fun L => QcC p (by rw [← eD]; omega) (by omega) (fun r hr => (hru.2 r hr).fits) (h ++ L) (hG.app L)
  have d2 := Qdw p (by rw [← eD]; omega) (by omega) hp hru.2
  have d3 := fun L => Qes l (by omega) (h ++ L) (hG.app L)
  have d4 := Qd1 l (by omega) (by omega) hg
  rw [epv] at d1 d2
  have hsl := fun s => Z4 Tryz.prog 9 3 Qin s
  refine Qh Tryz.func4 rfl Tryz.call4 Tryz.ntmps4 (congrArg Array.toList Tryz.results4) (by simp) ?_
  repeat (first | ((first | (with_reducible (first | refine Qa fun K E hK hE => ?_ | refine Qs c0 ?_ | refine Qs c1 ?_))); simp -implicitDefEqProofs only [Qd, Qb, Qg, OpW, QR, aop, undef, AS.ev, Qc, Qq, Qr, Qk, QD, QlK, Ql3, AV.Qk5, Qy, QlX, QlY, QI, QlZ, ↓reduceIte, QlQ, QlR, Nat.reduceAdd, Nat.reduceLT, Nat.reduceEqDiff, QlP, Ql2, Ql, QK, QL, aBin, aLen, QO, QlD, QlE, QlF, QlI, QlG, QlS, QlW, Q1, goInt, Qma, QlL, QlH, un23, ti27, ti33, un33, Y6, Z2, QG, q1, q2]) | (with_reducible (first | refine Qi fun K hK => ?_ | refine Qm ?_ | refine Qv ?_ | refine Qf ?_)) | ((with_reducible refine hK _ ?_); clear hK) | (refine Qj rfl ?_; simp only [↓reduceIte, QlH]))
  obtain ⟨I, hI⟩ : ∃ I : Nat → AS → Prop, I = fun m' s => ∃ k : Nat, m' = D.length - k ∧ k ≤ D.length ∧ s.tm 1 = .sl 3 (vs G.goal l) none ∧ s.tm 2 = .ptr h.length 0 0 ∧ s.tm 5 = .i k ∧ s.h = h ++ [.cells 35 2 [.agg [.sl 2 (vs Dc.av D) none, .sl 6 (vs Rl.av p.rules) none]]] := ⟨_, rfl⟩; refine Q9 I ?_ (m := D.length) ?_
  · intro m' s hs; rw [hI] at hs; obtain ⟨tm, hp⟩ := s; dsimp only at hs; obtain ⟨k, rfl, hk, t1, t2, t5, rfl⟩ := hs
    by_cases hlt : k < D.length
    · have hgd := YN Dc.av hlt
      have z9 : (k : Int) < D.length := by omega
      by_cases w : ((D[k]).name.size : Int) > 100
      · repeat (first | ((first | (with_reducible (first | refine Qa fun K E hK hE => ?_ | refine FunW.ret (FunW.call (ce _)) ?_))); simp -implicitDefEqProofs only [Qd, Qb, Qg, OpW, QR, aop, AS.ev, Qc, Qq, Qk, Qy, ↓reduceIte, Nat.reduceLT, Nat.reduceEqDiff, Ql2, Qmb, Ql, QK, QL, QJ, aBin, aLen, QO, QlD, QlF, QlW, QW, Q1, goInt, Ql9, Qmg, Qmf, ti9, ti33, ei33, un33, Y6, QaM, t2, t5, z9, hgd, QG, Dc.cells, hsl, w]) | (with_reducible (first | refine Qi fun K hK => ?_ | refine Qm ?_ | refine Qn ?_ | refine Qv ?_ | refine Qf ?_ | refine QB ?_ | refine QH ?_)) | ((with_reducible refine hK _ ?_); clear hK) | (refine Qj rfl ?_; simp only [↓reduceIte]))
        simp only [QN, Qp, Qu, upd, ↓reduceIte, QlJ, QlN]; first | refine Qe (htake _ _) (.keep (.v _)) ⟨rfl, rfl⟩ | refine Qe List.take_length (.keep (.v _)) ⟨rfl, rfl⟩
      · repeat (first | ((first | (with_reducible (first | refine Qa fun K E hK hE => ?_ | refine Qo fun K E hK hE => ?_))); simp -implicitDefEqProofs only [Qd, Qb, Qg, OpW, aop, AS.ev, Qc, Qq, Qk, Qy, ↓reduceIte, Nat.reduceLT, Nat.reduceEqDiff, Ql2, Qmb, Ql, QK, QL, QJ, aBin, aLen, QO, QlD, QlF, QW, Q1, Xf, goInt, Ql9, Qma, Qmg, Qmf, ti9, ti33, ei33, un33, Y6, QaM, t2, t5, z9, hgd, QG, Dc.cells, hsl, w]) | (with_reducible (first | refine Qi fun K hK => ?_ | refine Qm ?_ | refine Qv ?_ | refine Qf ?_ | refine Qw ?_)) | ((with_reducible refine hK _ ?_); clear hK) | (refine Qj rfl ?_; simp only [↓reduceIte, QlH]))
        refine XD.mk (m' := D.length - (k + 1)) (by omega) ?_
        rw [hI]
        refine ⟨k + 1, rfl, hlt, t1, t2, ?_, rfl⟩
        simp only [upd, ↓reduceIte]
        rw [Xe (by omega)]
    · have z9 : ¬ (k : Int) < D.length := by omega
      repeat (first | ((first | (with_reducible (first | refine Qa fun K E hK hE => ?_ | refine QQ d2 ?_ | refine QQ d4 ?_ | refine XL (FunW.call (d1 _)) (ZR _) ?_ | refine XL (FunW.call (d3 _)) (ZR _) ?_ | refine XL (FunW.call (ce _)) (ZR _) ?_)) | (refine QX (id := 8) [(0, 0), (2, 0), (1, 3), (3, 1), (4, 0), (5, 0), (6, 0), (8, 0), (7, 3), (9, 1), (10, 0), (11, 0), (12, 0), (13, 3), (14, 0), (15, 0)] mixed (by kernel_rfl) fun K hK => ?_)); simp -implicitDefEqProofs only [Xk, Xd, Xw, Qd, Qb, Qg, OpW, aop, AS.ev, Qc, Qk, Qy, QM, ↓reduceIte, QlQ, QlR, Nat.reduceAdd, Nat.reduceLT, Nat.reduceLeDiff, Nat.reduceEqDiff, QlP, Ql2, Qmb, Ql, QK, QL, aBin, aLen, QO, QlD, QlE, QlF, QlI, QlG, QlS, QlW, QW, QZ, goInt, Qma, QlL, ti33, un33, ti35, Y6, t1, t2, t5, z9, QG]) | (with_reducible (first | refine Qi fun K hK => ?_ | refine Qn ?_ | refine Q2 ?_ | refine Qf ?_ | refine QU ?_ | refine QV ?_)) | ((with_reducible refine hK _ ?_); clear hK) | (clear hK; (with_reducible refine hK _ ?_); clear hK) | (refine Qj rfl ?_; simp only [↓reduceIte, QlH]))
      simp only [QN, Qp, Qu, upd, ↓reduceIte, QlJ, QlN]; first | refine Qe (htake _ _) (.keep (.v _)) ⟨rfl, rfl⟩ | refine Qe List.take_length (.keep (.v _)) ⟨rfl, rfl⟩
  · rw [hI]
    exact ⟨0, by omega, Nat.zero_le _, rfl, rfl, rfl, rfl⟩
end Go.Proofs.YtenheconhibonaaGreatDoor.Ab
