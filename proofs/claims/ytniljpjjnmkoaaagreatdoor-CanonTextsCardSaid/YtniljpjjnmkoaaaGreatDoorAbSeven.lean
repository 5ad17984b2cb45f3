/-
  An abstract program logic, contracts of functions, and laws of terms and rules (part 7).
-/
import Derived.Test.YtniljpjjnmkoaaaGreatDoorAbSix
import Derived.Test.YtniljpjjnmkoaaaGreatDoorAbFive
set_option linter.unusedVariables false
set_option linter.unusedSimpArgs false
set_option maxHeartbeats 4000000
set_option maxRecDepth 4000
namespace Go.Proofs.YtniljpjjnmkoaaaGreatDoor.Ab
open Go.Proofs
theorem QfY (x s : ByteArray) : XY [x] s = x := by
  apply Qhy
  show (Lib.join [x.data.toList] _).toArray.toList = _
  rw [Lib.join_one, List.toList_toArray]
theorem Qd5 {l : List ByteArray} (hl : l ≠ []) (x s : ByteArray) : XY (l ++ [x]) s = XY l s ++ s ++ x := by
  obtain ⟨a, r, rfl⟩ : ∃ a r, l = a :: r := by cases l with | nil => exact absurd rfl hl | cons a r => exact ⟨a, r, rfl⟩
  apply Qhy
  rw [QcZ, QcZ]
  simp only [XY, QoI, Qov, List.map_append, Qoz, Lib.join_cons, QoR, Lib.joinTail, List.map_append, List.flatten_append, Qov, Qoz, List.flatten_cons, List.flatten_nil, QoJ, List.append_assoc]
def QaU (l : List ByteArray) : ByteArray := if l = [] then { data := #[] } else spS ++ XY l cmS
theorem Qdp (x : ByteArray) (s : ByteArray) : s ++ smS ++ QaU [x] = s ++ smS ++ spS ++ x := by
  rw [QaU, if_neg (by simp), QfY, ← ByteArray.append_assoc]
theorem QhY {l : List ByteArray} (hl : l ≠ []) (x s : ByteArray) : s ++ smS ++ QaU (l ++ [x]) = s ++ smS ++ QaU l ++ ({ data := #[44] } : ByteArray) ++ spS ++ x := by
  have e : cmS = ({ data := #[44] } : ByteArray) ++ spS := rfl
  rw [QaU, QaU, if_neg (by simp), if_neg hl, Qd5 hl, e]
  simp only [ByteArray.append_assoc]
end Go.Proofs.YtniljpjjnmkoaaaGreatDoor.Ab
set_option maxRecDepth 4000
namespace Go.Proofs.YtniljpjjnmkoaaaGreatDoor.Ab
open Go.Proofs
theorem QgE (a : An) : (a.failed = true ∨ a.vals.length > 1048576) → Pure Tryz.prog 24 [a.av] (.v (.string (Yv a))) := by
  intro hq h
  by_cases hf : a.failed = true
  · have e : Yv a = flS := by rw [Yv, if_pos hf]
    refine Qe Tryz.func24 rfl Tryz.call24 Tryz.ntmps24 (congrArg Array.toList Tryz.results24) (by simp) ?_
    repeat (first | (((with_reducible refine Qa fun K E hK hE => ?_)); simp -implicitDefEqProofs only [Qg, Qf, OpW, aop, undef, AS.ev, Qu, AV.QnA, ↓reduceIte, Nat.reduceAdd, Nat.reduceLT, Nat.reduceEqDiff, Qq, QD, QE, ti4, ZJ, An.cells, hf]) | (with_reducible (first | refine Qd fun K hK => ?_ | refine Qj ?_ | refine Qp ?_)) | ((with_reducible refine hK _ ?_); clear hK) | (refine Qh rfl ?_; simp only [↓reduceIte]))
    simp only [QC, Ql, Qr, upd, ↓reduceIte, Qom, Qoq]; first | refine Qc (htake _ _) (.keep (.v _)) ⟨by rw [e]; rfl, rfl⟩ | refine Qc List.take_length (.keep (.v _)) ⟨by rw [e]; rfl, rfl⟩
  · have hl : 1048576 < a.vals.length := by rcases hq with h | h; exact absurd h hf; exact h
    have hf' : a.failed = false := by simpa using hf
    have hl' : (a.vals.length : Int) > 1048576 := by omega
    have e : Yv a = eB := by rw [Yv, if_neg hf, if_pos hl]
    refine Qe Tryz.func24 rfl Tryz.call24 Tryz.ntmps24 (congrArg Array.toList Tryz.results24) (by simp) ?_
    repeat (first | (((with_reducible refine Qa fun K E hK hE => ?_)); simp -implicitDefEqProofs only [Qg, Qf, OpW, aop, undef, AS.ev, Qu, AV.QnA, ↓reduceIte, Nat.reduceAdd, Nat.reduceLT, Nat.reduceEqDiff, Qq, QD, QE, aBin, aLen, goInt, ti4, ti29, un29, ZJ, Yf, An.cells, hf', hl']) | (with_reducible (first | refine Qd fun K hK => ?_ | refine Qj ?_ | refine Qn ?_ | refine Qb ?_ | refine Qp ?_)) | ((with_reducible refine hK _ ?_); clear hK) | (refine Qh rfl ?_; simp only [↓reduceIte, Qok]))
    simp only [QC, Ql, Qr, upd, ↓reduceIte, Qom, Qoq]; first | refine Qc (htake _ _) (.keep (.v _)) ⟨by rw [e]; rfl, rfl⟩ | refine Qc List.take_length (.keep (.v _)) ⟨by rw [e]; rfl, rfl⟩
theorem Qdw (a : An) (ho : a.ok) (hf : a.failed = false) (hv : a.vals.length ≤ 1000) (hs : a.store.length ≤ 1000) (hnv : ndsL a.vals ≤ 1000000) (hns : gsN a.store ≤ 1000000) :
    Pure Tryz.prog 24 [a.av] (.v (.string (Yv a))) := by
  intro h
  have hb1 : ¬ ((a.vals.length : Int) > 1048576) := by omega
  have hb2 : ¬ (1048576 < a.vals.length) := by omega
  have hvs : ∀ x ∈ txVs a.vals, x.size ≤ 15011 := fun x hx => by
    simp only [txVs, List.mem_map, List.mem_range] at hx
    obtain ⟨k, hk, rfl⟩ := hx
    exact (Qcq (by omega) _).2
  have hJk : ∀ k, (XY ((txVs a.vals).take k) cmS).size ≤ 15013000 := fun k => by
    have h1 := Qas ((txVs a.vals).take k)
    have h2 := Qa0 (l := (txVs a.vals).take k) (K := 15011) (fun x hx => hvs x (List.mem_of_mem_take hx))
    rw [List.length_take, X7] at h2
    have h3 : min k a.vals.length ≤ 1000 := by omega
    have h4 : min k a.vals.length * 15013 ≤ 1000 * 15013 := Nat.mul_le_mul_right _ h3
    omega
  have hTk : ∀ k, (QaU ((a.store.take k).map txtA)).size ≤ 15013001 := fun k => by
    unfold QaU
    split
    · exact Nat.zero_le _
    · have h1 := Qas ((a.store.take k).map txtA)
      have h2 := Qa0 (l := (a.store.take k).map txtA) (K := 15000) (fun x hx => by obtain ⟨g, _, rfl⟩ := List.mem_map.1 hx; exact QcP g)
      rw [List.length_map, List.length_take] at h2
      have h3 : min k a.store.length ≤ 1000 := by omega
      have h4 : min k a.store.length * 15002 ≤ 1000 * 15002 := Nat.mul_le_mul_right _ h3
      rw [QA]
      have : spS.size = 1 := rfl
      omega
  have zc : cmS.size = 2 := rfl
  have ze : eqS.size = 3 := rfl
  have zm : smS.size = 1 := rfl
  have zp : spS.size = 1 := rfl
  have hVall : ∀ k (hk : k < a.vals.length), (a.vals[k]).QnF = false → Yv a = eB := fun k hk hr => by
    rw [Yv, if_neg (by rw [hf]; decide), if_neg hb2, if_pos]
    rw [Bool.eq_false_iff]
    intro hq
    rw [List.all_eq_true] at hq
    rw [hq _ (List.getElem_mem hk)] at hr
    cases hr
  refine Qe Tryz.func24 rfl Tryz.call24 Tryz.ntmps24 (congrArg Array.toList Tryz.results24) (by simp) ?_
  repeat (first | (((with_reducible refine Qa fun K E hK hE => ?_)); simp -implicitDefEqProofs only [Qg, Qf, OpW, aop, undef, AS.ev, Qu, AV.QnA, ↓reduceIte, Nat.reduceAdd, Nat.reduceLT, Nat.reduceEqDiff, Qq, QD, QE, aBin, aLen, goInt, ti4, ti29, un29, ZJ, Yf, An.cells, hf, hb1]) | (with_reducible (first | refine Qd fun K hK => ?_ | refine Qi ?_ | refine Qn ?_ | refine Qb ?_)) | ((with_reducible refine hK _ ?_); clear hK) | (refine Qh rfl ?_; simp only [↓reduceIte, Qok]))
  obtain ⟨I, hI⟩ : ∃ I : Nat → AS → Prop, I = fun m' s => ∃ (k : Nat), m' = a.vals.length - k ∧ k ≤ a.vals.length ∧ (∀ t ∈ a.vals.take k, t.QnF = true) ∧ s.tm 1 = .ptr h.length 0 0 ∧ s.tm 3 = .v (.string (XY ((txVs a.vals).take k) cmS)) ∧ s.tm 4 = .i k ∧ s.h = h ++ [.cells 32 3 [a.av]] := ⟨_, rfl⟩; refine QK I ?_ (m := a.vals.length) ?_
  · intro m' s hs; rw [hI] at hs; obtain ⟨tm, hp⟩ := s; dsimp only at hs; obtain ⟨k, rfl, hk, hall, t1, t3, t4, rfl⟩ := hs
    by_cases hlt : k < a.vals.length
    · have hnk : (a.vals[k]).nds ≤ 1000000 := Nat.le_trans (Yc hlt) hnv
      have hok := ZL hlt ho.v
      have cr : Pure Tryz.prog 42 [(a.vals[k]).av] (.b (a.vals[k]).QnF) := Y4 _ hnk hok
      have cl := QaP k (by omega)
      have ct := Qf6 a.vals[k] hnk hok
      obtain ⟨q1, q2⟩ := Qcq (k := k) (by omega) a.vals[k]
      have q3 := Qcy a.vals[k]
      have hJ := hJk k
      have e3 : (txVs a.vals).take (k + 1) = (txVs a.vals).take k ++ [txV k a.vals[k]] := QfT hlt
      have fin : ∀ X : ByteArray, X.size ≤ 15014000 → (X ++ vOf (decN k) ++ eqS ++ txtT a.vals[k] = XY ((txVs a.vals).take (k + 1)) cmS) → True := fun _ _ _ => trivial
      cases hr : (a.vals[k]).QnF with
      | false =>
        rw [hr] at cr
        have e := hVall k hlt hr
        repeat (first | ((first | (with_reducible (first | refine Qa fun K E hK hE => ?_ | refine Qk cr ?_))); simp -implicitDefEqProofs only [Qg, Qf, OpW, QI, aop, AS.ev, ↓reduceIte, Nat.reduceAdd, Nat.reduceLT, Nat.reduceEqDiff, Qq, QD, QE, Qz, aBin, aLen, goInt, ti29, ei29, un29, Yf, ti41, An.cells, t1, t4, hlt, Xb hlt]) | (with_reducible (first | refine Qd fun K hK => ?_ | refine Qi ?_ | refine Qj ?_ | refine Qn ?_ | refine Qb ?_ | refine Qp ?_ | refine Qs ?_)) | ((with_reducible refine hK _ ?_); clear hK) | (refine Qh rfl ?_; simp only [↓reduceIte]))
        simp only [QC, Ql, Qr, upd, ↓reduceIte, Qom, Qoq]; first | refine Qc (htake _ _) (.keep (.v _)) ⟨by rw [e]; rfl, rfl⟩ | refine Qc List.take_length (.keep (.v _)) ⟨by rw [e]; rfl, rfl⟩
      | true =>
        rw [hr] at cr
        have hall' : ∀ t ∈ a.vals.take (k + 1), t.QnF = true := by
          rw [List.take_succ_eq_append_getElem hlt]
          intro t ht
          rcases List.mem_append.1 ht with ht | ht
          · exact hall t ht
          · rw [List.mem_singleton] at ht; subst ht; exact hr
        by_cases hk0 : k = 0
        · subst hk0
          have h00 : ¬ ((0 : Int) > 0) := by decide
          have h0l : (0 : Int) < (a.vals.length : Int) := by omega
          have t3' : tm 3 = .v (.string { data := #[] }) := t3
          have ad1 := fun xo yo => Xe Tryz.prog 9 xo yo { data := #[] } (vOf (decN 0)) (by show 0 + _ ≤ _; omega)
          have ad2 := fun xo yo => Xe Tryz.prog 9 xo yo (({ data := #[] } : ByteArray) ++ vOf (decN 0)) eqS (by simp only [QA]; show 0 + _ + _ ≤ _; omega)
          have ad3 := fun xo yo => Xe Tryz.prog 9 xo yo (({ data := #[] } : ByteArray) ++ vOf (decN 0) ++ eqS) (txtT a.vals[0]) (by simp only [QA]; show 0 + _ + _ + _ ≤ _; omega)
          simp only [eqS] at ad2 ad3
          repeat (first | ((first | (with_reducible (first | refine Qa fun K E hK hE => ?_ | refine Qm fun K E hK hE => ?_ | refine Qk cr ?_ | refine Qt cl ?_ | refine Qt ct ?_)) | (refine QH (id := 13) [(0, 0), (1, 0), (2, 1), (3, 0), (4, 0), (5, 0), (6, 0), (7, 0), (8, 0), (9, 0), (10, 1), (11, 0), (12, 0)] mixed (by kernel_rfl) fun K hK => ?_)); simp -implicitDefEqProofs only [Qg, Qf, OpW, QI, aop, AS.ev, ↓reduceIte, Nat.reduceAdd, Nat.reduceLT, Nat.reduceLeDiff, Nat.reduceEqDiff, Qq, QD, QE, Qz, aBin, aLen, goInt, ti29, ei29, un29, Yf, ti41, Qo3, An.cells, t1, t3', t4, h0l, h00, Xb hlt, ad1, ad2, ad3]) | (with_reducible (first | refine Qd fun K hK => ?_ | refine Qi ?_ | refine Qn ?_ | refine Qb ?_ | refine Qo ?_)) | ((with_reducible refine hK _ ?_); clear hK) | (refine Qh rfl ?_; simp only [↓reduceIte, Qok]))
          refine Q4.mk (m' := a.vals.length - (0 + 1)) (by omega) ?_
          rw [hI]
          refine ⟨0 + 1, rfl, hlt, hall', t1, ?_, rfl, rfl⟩
          simp only [upd, ↓reduceIte, Nat.reduceEqDiff]
          rw [e3, List.take_zero, List.nil_append, QfY, txV]
          have hz : ({ data := #[] } : ByteArray) ++ vOf (decN 0) = vOf (decN 0) := ByteArray.empty_append
          rw [hz]; rfl
        · have hkp : ((k : Nat) : Int) > 0 := by omega
          have hne : (txVs a.vals).take k ≠ [] := by
            intro q
            have := congrArg List.length q
            rw [List.length_take, X7, List.length_nil] at this
            omega
          have ad0 := fun xo yo => Xe Tryz.prog 9 xo yo (XY ((txVs a.vals).take k) cmS) cmS (by omega)
          have ad1 := fun xo yo => Xe Tryz.prog 9 xo yo (XY ((txVs a.vals).take k) cmS ++ cmS) (vOf (decN k)) (by simp only [QA]; omega)
          have ad2 := fun xo yo => Xe Tryz.prog 9 xo yo (XY ((txVs a.vals).take k) cmS ++ cmS ++ vOf (decN k)) eqS (by simp only [QA]; omega)
          have ad3 := fun xo yo => Xe Tryz.prog 9 xo yo (XY ((txVs a.vals).take k) cmS ++ cmS ++ vOf (decN k) ++ eqS) (txtT a.vals[k]) (by simp only [QA]; omega)
          simp only [eqS, cmS] at ad0 ad1 ad2 ad3 t3
          repeat (first | ((first | (with_reducible (first | refine Qa fun K E hK hE => ?_ | refine Qm fun K E hK hE => ?_ | refine Qk cr ?_ | refine Qt cl ?_ | refine Qt ct ?_)) | (refine QH (id := 13) [(0, 0), (1, 0), (2, 1), (3, 0), (4, 0), (5, 0), (6, 0), (7, 0), (8, 0), (9, 0), (10, 1), (11, 0), (12, 0)] mixed (by kernel_rfl) fun K hK => ?_)); simp -implicitDefEqProofs only [Qg, Qf, OpW, QI, aop, AS.ev, ↓reduceIte, Nat.reduceAdd, Nat.reduceLT, Nat.reduceLeDiff, Nat.reduceEqDiff, Qq, QD, QE, Qz, aBin, aLen, goInt, ti29, ei29, un29, Yf, ti41, An.cells, t1, t3, t4, hlt, hkp, Xb hlt, ad0, ad1, ad2, ad3]) | (with_reducible (first | refine Qd fun K hK => ?_ | refine Qi ?_ | refine Qn ?_ | refine Qb ?_ | refine Qo ?_)) | ((with_reducible refine hK _ ?_); clear hK) | (refine Qh rfl ?_; simp only [↓reduceIte, Qok]))
          refine Q4.mk (m' := a.vals.length - (k + 1)) (by omega) ?_
          rw [hI]
          refine ⟨k + 1, rfl, hlt, hall', t1, ?_, ?_, rfl⟩
          · simp only [upd, ↓reduceIte, Nat.reduceEqDiff]
            rw [e3, Qd5 hne, txV]
            simp only [ByteArray.append_assoc]; rfl
          · simp only [upd, ↓reduceIte]
            rw [QT (by omega)]
    · have hkl : k = a.vals.length := by omega
      subst hkl
      rw [List.take_length] at hall
      have ht3 : (txVs a.vals).take a.vals.length = txVs a.vals := List.take_of_length_le (by rw [X7]; exact Nat.le_refl _)
      rw [ht3] at t3
      have hJ := hJk a.vals.length
      rw [ht3] at hJ
      have hVok : ¬ a.vals.all T.QnF = false := by rw [Bool.not_eq_false, List.all_eq_true]; exact hall
      have adm := fun xo yo => Xe Tryz.prog 9 xo yo (XY (txVs a.vals) cmS) smS (by omega)
      simp only [smS] at adm
      repeat (first | (((with_reducible refine Qa fun K E hK hE => ?_)); simp -implicitDefEqProofs only [Qg, Qf, OpW, aop, AS.ev, ↓reduceIte, Nat.reduceLT, Nat.reduceEqDiff, Qq, QD, QE, aBin, aLen, goInt, ti29, un29, Yf, An.cells, t1, t3, t4, hlt, adm]) | (with_reducible (first | refine Qd fun K hK => ?_ | refine Qi ?_ | refine QB ?_ | refine Qb ?_ | refine Qw ?_ | refine Qv ?_)) | ((with_reducible refine hK _ ?_); clear hK) | (clear hK; (with_reducible refine hK _ ?_); clear hK) | (refine Qh rfl ?_; simp only [↓reduceIte, Qok]))
      obtain ⟨I, hI⟩ : ∃ I : Nat → AS → Prop, I = fun m' s => ∃ (k : Nat), m' = a.store.length - k ∧ k ≤ a.store.length ∧ (∀ g ∈ a.store.take k, QS g = true) ∧ s.tm 1 = .ptr h.length 0 0 ∧ s.tm 3 = .v (.string (XY (txVs a.vals) cmS ++ smS ++ QaU ((a.store.take k).map txtA))) ∧ s.tm 5 = .i k ∧ s.h = h ++ [.cells 32 3 [a.av]] := ⟨_, rfl⟩; refine QK I ?_ (m := a.store.length) ?_
      · intro m' s hs; rw [hI] at hs; obtain ⟨tm, hp⟩ := s; dsimp only at hs; obtain ⟨k, rfl, hk, halls, t1, t3, t5, rfl⟩ := hs
        by_cases hlt : k < a.store.length
        · have hgm := List.getElem_mem hlt
          have hgn := Nat.le_trans (ZY hlt) hns
          have cr := Zb a.store[k] hgn (ho.s _ hgm)
          have ct := Qcb a.store[k] hgn (ho.s _ hgm)
          have q3 := QcP a.store[k]
          have hT := hTk k
          have e3 : (a.store.take (k + 1)).map txtA = (a.store.take k).map txtA ++ [txtA a.store[k]] := by rw [List.take_succ_eq_append_getElem hlt, List.map_append]; rfl
          cases hr : QS a.store[k] with
          | false =>
            rw [hr] at cr
            have e : Yv a = eB := by
              rw [Yv, if_neg (by rw [hf]; decide), if_neg hb2, if_neg hVok, if_pos]
              rw [Bool.eq_false_iff]
              intro hq
              rw [List.all_eq_true] at hq
              rw [hq _ (List.getElem_mem hlt)] at hr
              cases hr
            repeat (first | ((first | (with_reducible (first | refine Qa fun K E hK hE => ?_ | refine Qk cr ?_))); simp -implicitDefEqProofs only [Qg, Qf, OpW, QI, aop, AS.ev, ↓reduceIte, Nat.reduceAdd, Nat.reduceLT, Nat.reduceEqDiff, Qq, QD, QE, Qz, aBin, aLen, goInt, ti30, ei30, un30, X8, ti45, An.cells, t1, t5, hlt, QU, XR G.atom hlt, QR, Q0]) | (with_reducible (first | refine Qd fun K hK => ?_ | refine Qi ?_ | refine Qj ?_ | refine Qn ?_ | refine Qb ?_ | refine Qp ?_ | refine Qs ?_)) | ((with_reducible refine hK _ ?_); clear hK) | (refine Qh rfl ?_; simp only [↓reduceIte]))
            simp only [QC, Ql, Qr, upd, ↓reduceIte, Qom, Qoq]; first | refine Qc (htake _ _) (.keep (.v _)) ⟨by rw [e]; rfl, rfl⟩ | refine Qc List.take_length (.keep (.v _)) ⟨by rw [e]; rfl, rfl⟩
          | true =>
            rw [hr] at cr
            have hall' : ∀ g ∈ a.store.take (k + 1), QS g = true := by
              rw [List.take_succ_eq_append_getElem hlt]
              intro t ht
              rcases List.mem_append.1 ht with ht | ht
              · exact halls t ht
              · rw [List.mem_singleton] at ht; subst ht; exact hr
            generalize hS : XY (txVs a.vals) cmS ++ smS ++ QaU ((a.store.take k).map txtA) = S at t3
            have hSz : S.size ≤ 30026002 := by rw [← hS]; simp only [QA]; omega
            by_cases hk0 : k = 0
            · subst hk0
              have h00 : ¬ ((0 : Int) > 0) := by decide
              have h0l : (0 : Int) < (a.store.length : Int) := by omega
              have ad1 := fun xo yo => Xe Tryz.prog 9 xo yo S spS (by omega)
              have ad2 := fun xo yo => Xe Tryz.prog 9 xo yo (S ++ spS) (txtA a.store[0]) (by simp only [QA]; omega)
              simp only [spS] at ad1 ad2
              repeat (first | ((first | (with_reducible (first | refine Qa fun K E hK hE => ?_ | refine Qm fun K E hK hE => ?_ | refine Qk cr ?_ | refine Qk ct ?_))); simp -implicitDefEqProofs only [Qg, Qf, OpW, QI, aop, AS.ev, ↓reduceIte, Nat.reduceAdd, Nat.reduceLT, Nat.reduceEqDiff, Qq, QD, QE, Qz, aBin, aLen, goInt, ti30, ei30, un30, X8, ti45, Qo3, An.cells, t1, t3, t5, h0l, h00, QU, XR G.atom hlt, QR, Q0, ad1, ad2]) | (with_reducible (first | refine Qd fun K hK => ?_ | refine Qi ?_ | refine Qn ?_ | refine Qb ?_ | refine Qo ?_)) | ((with_reducible refine hK _ ?_); clear hK) | (refine Qh rfl ?_; simp only [↓reduceIte, Qok]))
              refine Q4.mk (m' := a.store.length - (0 + 1)) (by omega) ?_
              rw [hI]
              refine ⟨0 + 1, rfl, hlt, hall', t1, ?_, rfl, rfl⟩
              simp only [upd, ↓reduceIte, Nat.reduceEqDiff]
              rw [e3, List.take_zero, List.map_nil, List.nil_append, Qdp, ← hS]
              have hz : QaU ((a.store.take 0).map txtA) = { data := #[] } := rfl
              rw [hz, Yu (s := XY (txVs a.vals) cmS ++ smS) (t := { data := #[] }) rfl]; rfl
            · have hkp : ((k : Nat) : Int) > 0 := by omega
              have hne : (a.store.take k).map txtA ≠ [] := by
                intro q
                have := congrArg List.length q
                rw [List.length_map, List.length_take, List.length_nil] at this
                omega
              have zk : ({ data := #[44] } : ByteArray).size = 1 := rfl
              have ad0 := fun xo yo => Xe Tryz.prog 9 xo yo S { data := #[44] } (by omega)
              have ad1 := fun xo yo => Xe Tryz.prog 9 xo yo (S ++ { data := #[44] }) spS (by simp only [QA]; omega)
              have ad2 := fun xo yo => Xe Tryz.prog 9 xo yo (S ++ { data := #[44] } ++ spS) (txtA a.store[k]) (by simp only [QA]; omega)
              simp only [spS] at ad1 ad2
              repeat (first | ((first | (with_reducible (first | refine Qa fun K E hK hE => ?_ | refine Qm fun K E hK hE => ?_ | refine Qk cr ?_ | refine Qk ct ?_))); simp -implicitDefEqProofs only [Qg, Qf, OpW, QI, aop, AS.ev, ↓reduceIte, Nat.reduceAdd, Nat.reduceLT, Nat.reduceEqDiff, Qq, QD, QE, Qz, aBin, aLen, goInt, ti30, ei30, un30, X8, ti45, An.cells, t1, t3, t5, hlt, hkp, QU, XR G.atom hlt, QR, Q0, ad0, ad1, ad2]) | (with_reducible (first | refine Qd fun K hK => ?_ | refine Qi ?_ | refine Qn ?_ | refine Qb ?_ | refine Qo ?_)) | ((with_reducible refine hK _ ?_); clear hK) | (refine Qh rfl ?_; simp only [↓reduceIte, Qok]))
              refine Q4.mk (m' := a.store.length - (k + 1)) (by omega) ?_
              rw [hI]
              refine ⟨k + 1, rfl, hlt, hall', t1, ?_, ?_, rfl⟩
              · simp only [upd, ↓reduceIte, Nat.reduceEqDiff]
                rw [e3, QhY hne, hS]; rfl
              · simp only [upd, ↓reduceIte]
                rw [QT (by omega)]
        · have hkl : k = a.store.length := by omega
          subst hkl
          rw [List.take_length] at halls t3
          have hSok : ¬ a.store.all QS = false := by rw [Bool.not_eq_false, List.all_eq_true]; exact halls
          have e : Yv a = XY (txVs a.vals) cmS ++ smS ++ QaU (a.store.map txtA) := by
            rw [Yv, if_neg (by rw [hf]; decide), if_neg hb2, if_neg hVok, if_neg hSok, QaU]
            by_cases hp : 0 < a.store.length
            · rw [if_pos hp, if_neg (by intro q; have := congrArg List.length q; rw [List.length_map, List.length_nil] at this; omega)]
            · rw [if_neg hp, if_pos (by rw [List.map_eq_nil_iff]; exact List.length_eq_zero_iff.1 (by omega)), Yu (t := { data := #[] }) rfl]
          repeat (first | (((with_reducible refine Qa fun K E hK hE => ?_)); simp -implicitDefEqProofs only [Qg, Qf, OpW, aop, AS.ev, ↓reduceIte, Nat.reduceLT, Nat.reduceEqDiff, Qq, QD, QE, aBin, aLen, goInt, ti30, un30, X8, An.cells, t1, t3, t5, hlt, QU]) | (with_reducible (first | refine Qd fun K hK => ?_ | refine Qj ?_ | refine QB ?_ | refine Qb ?_ | refine Qw ?_ | refine Qv ?_)) | ((with_reducible refine hK _ ?_); clear hK) | (clear hK; (with_reducible refine hK _ ?_); clear hK) | (refine Qh rfl ?_; simp only [↓reduceIte, Qok]))
          simp only [QC, Ql, Qr, upd, ↓reduceIte, Qom, Qoq]; first | refine Qc (htake _ _) (.keep (.v _)) ⟨by rw [e], rfl⟩ | refine Qc List.take_length (.keep (.v _)) ⟨by rw [e], rfl⟩
      · rw [hI]
        refine ⟨0, by omega, Nat.zero_le _, by simp, t1, ?_, rfl, rfl⟩
        simp only [upd, ↓reduceIte, Nat.reduceEqDiff]
        have hz : QaU ((a.store.take 0).map txtA) = { data := #[] } := rfl
        rw [hz, Yu (s := XY (txVs a.vals) cmS ++ smS) (t := { data := #[] }) rfl]; rfl
  · rw [hI]
    exact ⟨0, by omega, Nat.zero_le _, by simp, rfl, rfl, rfl, rfl⟩
end Go.Proofs.YtniljpjjnmkoaaaGreatDoor.Ab
set_option maxRecDepth 4000
namespace Go.Proofs.YtniljpjjnmkoaaaGreatDoor.Ab
open Go.Proofs
theorem Qnn (a : An) (ha : a.ok) (h : AH) (hG : Xm h) : Q9 Tryz.prog 6 [a.av] h fun o h' => o = .ret (.b true) ∧ h' = h := by
  have c1 := YV a ha
  have ce := fun L => XQ (h ++ L) (hG.onto L)
  cases k1 : Y7 a with
  | true =>
    rw [k1] at c1
    refine Qe Tryz.func6 rfl Tryz.call6 Tryz.ntmps6 (congrArg Array.toList Tryz.results6) (by simp) ?_
    repeat (first | ((first | (with_reducible (first | refine Qa fun K E hK hE => ?_ | refine Qm fun K E hK hE => ?_ | refine Qk c1 ?_ | refine Qt c1 ?_ | refine FunW.ret (FunW.call (ce _)) ?_)) | (refine Qy (id := 3) [(0, 0), (1, 0), (2, 0), (3, 1), (4, 0), (5, 0), (6, 0), (7, 0), (8, 0)] mixed (by kernel_rfl) fun K hK => ?_) | (refine QH (id := 3) [(0, 0), (1, 0), (2, 0), (3, 1), (4, 0), (5, 0), (6, 0), (7, 0), (8, 0)] mixed (by kernel_rfl) fun K hK => ?_)); simp -implicitDefEqProofs only [Qg, Qf, OpW, QI, aop, undef, QaB, AS.ev, Qu, AV.QnA, ↓reduceIte, Nat.reduceAdd, Nat.reduceLT, Nat.reduceLeDiff, Nat.reduceEqDiff, Nat.reduceSub, Nat.reduceMul, Qq, QD, QE, QN, QJ, Qz, aBin, QdL, Xu, XS, Yb, QM, Zj, Xd, aLen, XG, XV, X2, XP, goInt, Nat.reducePow, ti0, zi0, ti4, zi4, un4, ti9, ei9, zi9, un9, ti32, ZJ, Yf, X8, zi32, sp32, Qo3, Int.sub_zero, Qdt, QO, An.cells, An.isAgg]) | (with_reducible (first | refine Qd fun K hK => ?_ | refine Qi ?_ | refine Qj ?_ | refine QP ?_ | refine QQ ?_ | refine Qn ?_ | refine QB ?_ | refine Qb ?_ | refine Qp ?_ | refine Qw ?_ | refine Qo ?_ | refine Qs ?_ | refine Qv ?_ | refine QL rfl ?_)) | (with_reducible (first | refine hK _ ?_ | (clear hK; refine hK _ ?_) | (clear hK; clear hK; refine hK _ ?_) | (clear hK; clear hK; clear hK; refine hK _ ?_)); clear hK) | (refine Qh rfl ?_; simp only [↓reduceIte, Qok]) | (intro (b : Bool); cases b))
    simp only [Qhi, Qe6, XT, ZT, QC, Ql, Qr, upd, ↓reduceIte, Nat.reduceEqDiff, Qom, Qoq]; first | refine Qc (htake _ _) (.keep (.v _)) ⟨rfl, rfl⟩ | refine Qc List.take_length (.keep (.v _)) ⟨rfl, rfl⟩
  | false =>
    rw [k1] at c1
    obtain ⟨a1, a2, a3, a4⟩ := Qg0 k1
    have hga : ∀ g ∈ a.store, g.args.length ≤ 1000000 := fun g hg => by
      obtain ⟨k, hk, rfl⟩ := List.getElem_of_mem hg
      have h1 := ZY hk
      have h2 := QW (a.store[k]).args
      omega
    have ct := fun hx hq => Qdg a (by omega) (by omega) hga hx hq
    have cr : Pure Tryz.prog 24 [a.av] (.v (.string (Yv a))) := by
      by_cases hf : a.failed = true
      · exact QgE a (.inl hf)
      · exact Qdw a ha (by simpa using hf) (by omega) (by omega) (by omega) (by omega)
    refine Qe Tryz.func6 rfl Tryz.call6 Tryz.ntmps6 (congrArg Array.toList Tryz.results6) (by simp) ?_
    repeat (first | ((first | (with_reducible (first | refine Qa fun K E hK hE => ?_ | refine Qm fun K E hK hE => ?_ | refine Qk c1 ?_ | refine Qt c1 ?_ | refine Qk cr ?_ | refine Qt cr ?_ | refine Qau (fun hx hk => FunW.call (ct hx ((hG.onto _).kept hk))) ?_ | refine Qau (fun hx hk => FunW.call (XQ hx ((hG.onto _).kept hk))) ?_)) | (refine Qy (id := 3) [(0, 0), (1, 0), (2, 0), (3, 1), (4, 0), (5, 0), (6, 0), (7, 0), (8, 0)] mixed (by kernel_rfl) fun K hK => ?_) | (refine QH (id := 3) [(0, 0), (1, 0), (2, 0), (3, 1), (4, 0), (5, 0), (6, 0), (7, 0), (8, 0)] mixed (by kernel_rfl) fun K hK => ?_)); simp -implicitDefEqProofs only [Qg, Qf, OpW, QI, aop, undef, QaB, AS.ev, Qu, AV.QnA, ↓reduceIte, Nat.reduceAdd, Nat.reduceLT, Nat.reduceLeDiff, Nat.reduceEqDiff, Nat.reduceSub, Nat.reduceMul, Qq, QD, QE, QN, QJ, Qz, aBin, QdL, Xu, XS, Yb, QM, Zj, Xd, aLen, XG, XV, X2, XP, goInt, Nat.reducePow, ti0, zi0, ti4, zi4, un4, ti9, ei9, zi9, un9, ti32, ZJ, Yf, X8, zi32, sp32, Qo3, Int.sub_zero, Qdt, QO, An.cells, An.isAgg]) | (with_reducible (first | refine Qd fun K hK => ?_ | refine Qi ?_ | refine Qj ?_ | refine QP ?_ | refine QQ ?_ | refine Qn ?_ | refine QB ?_ | refine Qb ?_ | refine Qp ?_ | refine Qw ?_ | refine Qo ?_ | refine Qs ?_ | refine Qv ?_ | refine QL rfl ?_)) | (with_reducible (first | refine hK _ ?_ | (clear hK; refine hK _ ?_) | (clear hK; clear hK; refine hK _ ?_) | (clear hK; clear hK; clear hK; refine hK _ ?_)); clear hK) | (refine Qh rfl ?_; simp only [↓reduceIte, Qok]) | (intro (b : Bool); cases b))
    simp only [Qhi, Qe6, XT, ZT, QC, Ql, Qr, upd, ↓reduceIte, Nat.reduceEqDiff, Qom, Qoq]; first | refine Qc (htake _ _) (.keep (.v _)) ⟨rfl, rfl⟩ | refine Qc List.take_length (.keep (.v _)) ⟨rfl, rfl⟩
end Go.Proofs.YtniljpjjnmkoaaaGreatDoor.Ab
