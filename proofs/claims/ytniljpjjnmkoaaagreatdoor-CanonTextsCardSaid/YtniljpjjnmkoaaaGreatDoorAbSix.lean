/-
  An abstract program logic, contracts of functions, and laws of terms and rules (part 6).
-/
import Derived.Test.YtniljpjjnmkoaaaGreatDoorAbFive
import Derived.Test.YtniljpjjnmkoaaaGreatDoorAbThree
import Derived.Test.YtniljpjjnmkoaaaGreatDoorAbFour
set_option linter.unusedVariables false
set_option linter.unusedSimpArgs false
set_option maxHeartbeats 4000000
set_option maxRecDepth 4000
namespace Go.Proofs.YtniljpjjnmkoaaaGreatDoor.Ab
open Go.Proofs
theorem Keep.hasG {h hx : AH} {g : Nat} {cs : Array Value} (k : Keep h hx) (H : HasG h g cs) : HasG hx g cs := by
  obtain ⟨id, ty, fr, hh⟩ := H
  exact ⟨id, ty, fr, k _ _ hh (by intros; nofun)⟩
theorem Xm.onto {h : AH} (H : Xm h) (L : AH) : Xm (h ++ L) := HasG.app H L
theorem Xm.kept {h hx : AH} (H : Xm h) (k : Keep h hx) : Xm hx := k.hasG H
def eqS : ByteArray := { data := #[32, 61, 32] }
def cmS : ByteArray := { data := #[44, 32] }
def smS : ByteArray := { data := #[59] }
def spS : ByteArray := { data := #[32] }
def flS : ByteArray := { data := #[102, 97, 105, 108, 101, 100] }
def txV (k : Nat) (t : T) : ByteArray := vOf (decN k) ++ eqS ++ txtT t
def txVs (l : List T) : List ByteArray := (List.range l.length).map fun k => txV k (l.getD k T.zero)
theorem X7 (l : List T) : (txVs l).length = l.length := by simp [txVs]
theorem QfT {l : List T} {k : Nat} (h : k < l.length) : (txVs l).take (k + 1) = (txVs l).take k ++ [txV k l[k]] := by
  have hk : k < (txVs l).length := by rw [X7]; exact h
  rw [List.take_succ_eq_append_getElem hk]
  simp only [txVs, List.getElem_map, List.getElem_range]
  rw [List.getD_eq_getElem?_getD, List.getElem?_eq_getElem h]; rfl
def Yv (a : An) : ByteArray :=
  if a.failed = true then flS else if 1048576 < a.vals.length then eB else if a.vals.all T.QnF = false then eB else if a.store.all QS = false then eB else
  if 0 < a.store.length then XY (txVs a.vals) cmS ++ smS ++ (spS ++ XY (a.store.map txtA) cmS) else XY (txVs a.vals) cmS ++ smS
def QdP (l : List ByteArray) : Nat := (l.map fun x => x.size + 2).sum
theorem Qas (l : List ByteArray) : (XY l cmS).size ≤ QdP l := by
  cases l with
  | nil => exact Nat.zero_le _
  | cons x r =>
    have e : (XY (x :: r) cmS).size = x.size + (Lib.joinTail cmS.data.toList (r.map (·.data.toList))).length := by
      show (Lib.join (x.data.toList :: r.map (·.data.toList)) _).toArray.size = _
      rw [Lib.join_cons, List.size_toArray, List.length_append, Array.length_toList]; rfl
    rw [e, Lib.joinTail_length]
    have hc : cmS.data.toList.length = 2 := rfl
    have hs : ∀ r : List ByteArray, Lib.lens (r.map (·.data.toList)) + 2 * r.length = QdP r := fun r => by
      induction r with
      | nil => rfl
      | cons y r ih =>
        simp only [Lib.lens, QdP, Qov, List.sum_cons, Qot] at ih ⊢
        have : y.data.toList.length = y.size := Array.length_toList
        omega
    have := hs r
    rw [hc, List.length_map]
    simp only [QdP, Qov, List.sum_cons] at this ⊢
    omega
theorem Qa0 {l : List ByteArray} {K : Nat} (h : ∀ x ∈ l, x.size ≤ K) : QdP l ≤ l.length * (K + 2) := by
  induction l with
  | nil => exact Nat.zero_le _
  | cons x l ih =>
    have h1 := h x (by simp)
    have h2 := ih fun y hy => h y (by simp [hy])
    simp only [QdP, Qov, List.sum_cons, Qot] at h2 ⊢
    rw [Nat.add_mul]; omega
theorem Qcy (t : T) : (txtT t).size ≤ 15000 := by
  unfold txtT
  split
  · rename_i h
    obtain ⟨_, h1, h2, h3⟩ := T.QnN t 200 20 h
    have := T.QnO t 200 20 (by omega) h
    omega
  · exact Nat.zero_le _
theorem QcP (g : G) : (txtA g).size ≤ 15000 := by
  unfold txtA
  split
  · rename_i h; exact (Qhm h).2.2.2
  · exact Nat.zero_le _
theorem Qcq {k : Nat} (hk : k ≤ 1048576) (t : T) : (vOf (decN k)).size ≤ 8 ∧ (txV k t).size ≤ 15011 := by
  have h1 := Qcr hk
  have h2 := Qcy t
  have h3 : (vOf (decN k)).size ≤ 8 := by rw [vOf, QA]; show 1 + _ ≤ 8; omega
  refine ⟨h3, ?_⟩
  rw [txV, QA, QA]
  show _ + 3 + _ ≤ _
  omega
theorem Qdg (a : An) (hv : a.vals.length ≤ 1000) (hs : a.store.length ≤ 1000) (hga : ∀ g ∈ a.store, g.args.length ≤ 1000000) (h : AH) (hG : Xm h) :
    Q9 Tryz.prog 23 [a.av] h fun o h' => o = .ret (.v (.string (Yv a))) ∧ h' = h := by
  have hb1 : ¬ ((a.vals.length : Int) > 1048576) := by omega
  have hb2 : ¬ (1048576 < a.vals.length) := by omega
  cases hf : a.failed with
  | true =>
    have e : Yv a = flS := by rw [Yv, if_pos hf]
    refine Qe Tryz.func23 rfl Tryz.call23 Tryz.ntmps23 (congrArg Array.toList Tryz.results23) (by simp) ?_
    repeat (first | (((with_reducible refine Qa fun K E hK hE => ?_)); simp -implicitDefEqProofs only [Qg, Qf, OpW, aop, undef, AS.ev, Qu, AV.QnA, ↓reduceIte, Nat.reduceAdd, Nat.reduceLT, Nat.reduceEqDiff, Qq, QD, QE, ti4, ZJ, An.cells, hf]) | (with_reducible (first | refine Qd fun K hK => ?_ | refine Qj ?_ | refine Qp ?_)) | ((with_reducible refine hK _ ?_); clear hK) | (refine Qh rfl ?_; simp only [↓reduceIte]))
    simp only [QC, Ql, Qr, upd, ↓reduceIte, Qom, Qoq]; first | refine Qc (htake _ _) (.keep (.v _)) ⟨by rw [e]; rfl, rfl⟩ | refine Qc List.take_length (.keep (.v _)) ⟨by rw [e]; rfl, rfl⟩
  | false =>
    have hvs : ∀ x ∈ txVs a.vals, x.size ≤ 15011 := fun x hx => by
      simp only [txVs, List.mem_map, List.mem_range] at hx
      obtain ⟨k, hk, rfl⟩ := hx
      exact (Qcq (by omega) _).2
    have hJ1 : (XY (txVs a.vals) cmS).size ≤ 15013000 := by
      have h1 := Qas (txVs a.vals)
      have h2 := Qa0 hvs
      rw [X7] at h2
      omega
    have hJ2 : (XY (a.store.map txtA) cmS).size ≤ 15013000 := by
      have h1 := Qas (a.store.map txtA)
      have h2 := Qa0 (l := a.store.map txtA) (K := 15000) (fun x hx => by obtain ⟨g, _, rfl⟩ := List.mem_map.1 hx; exact QcP g)
      rw [List.length_map] at h2
      omega
    have wv : ∀ (l : List ByteArray) (o : Option Nat) , WkL [AV.sl 1 (strs l) o, .v (.string cmS)] [AV.sl 1 (strs l) none, .v (.string cmS)] := fun l o =>
      .cons (.sl rfl (fun y hy => by simp only [strs, List.mem_map] at hy; obtain ⟨t, _, rfl⟩ := hy; rfl) (.refl _)) (.cons (.refl _) .nil)
    have cj1 := fun o => Zi (wv _ o) (Qgb (txVs a.vals) cmS (by omega) (by rw [X7]; omega))
    have cj2 := fun o => Zi (wv _ o) (Qgb (a.store.map txtA) cmS (by omega) (by rw [List.length_map]; omega))
    have hsz1 : smS.size = 1 := rfl
    have hsz2 : spS.size = 1 := rfl
    have hsz3 : eqS.size = 3 := rfl
    have ad1 := fun xo yo => Xe Tryz.prog 9 xo yo (XY (txVs a.vals) cmS) smS (by omega)
    have ad2 := fun xo yo => Xe Tryz.prog 9 xo yo spS (XY (a.store.map txtA) cmS) (by omega)
    have ad3 := fun xo yo => Xe Tryz.prog 9 xo yo (XY (txVs a.vals) cmS ++ smS) (spS ++ XY (a.store.map txtA) cmS) (by simp only [QA]; omega)
    simp only [smS, spS, cmS] at ad1 ad2 ad3 cj1 cj2
    refine Qe Tryz.func23 rfl Tryz.call23 Tryz.ntmps23 (congrArg Array.toList Tryz.results23) (by simp) ?_
    repeat (first | (((with_reducible refine Qa fun K E hK hE => ?_)); simp -implicitDefEqProofs only [Qg, Qf, OpW, aop, undef, AS.ev, Qu, AV.QnA, ↓reduceIte, Nat.reduceAdd, Nat.reduceLT, Nat.reduceEqDiff, Qq, QD, QE, aBin, aLen, goInt, ti4, ti29, un29, ZJ, Yf, An.cells, hf, hb1]) | (with_reducible (first | refine Qd fun K hK => ?_ | refine Qi ?_ | refine Qn ?_ | refine Qb ?_)) | ((with_reducible refine hK _ ?_); clear hK) | (refine Qh rfl ?_; simp only [↓reduceIte, Qok]))
    refine QaJ 3 9 1 rfl ?_
    refine QaJ 4 9 1 rfl ?_
    have hVall : ∀ k (hk : k < a.vals.length), (a.vals[k]).QnF = false → Yv a = eB := fun k hk hr => by
      rw [Yv, if_neg (by rw [hf]; decide), if_neg hb2, if_pos]
      rw [Bool.eq_false_iff]
      intro hq
      rw [List.all_eq_true] at hq
      rw [hq _ (List.getElem_mem hk)] at hr
      cases hr
    obtain ⟨I, hI⟩ : ∃ I : Nat → AS → Prop, I = fun m' s => ∃ (k : Nat) (M : AH), m' = a.vals.length - k ∧ k ≤ a.vals.length ∧ (∀ t ∈ a.vals.take k, t.QnF = true) ∧ s.tm 1 = .ptr h.length 0 0 ∧ s.tm 3 = .sl 1 (strs ((txVs a.vals).take k)) (some (h.length + 1)) ∧ s.tm 4 = .sl 1 [] (some (h.length + 2)) ∧ s.tm 17 = .sl 4 (avs a.vals) none ∧ s.tm 18 = .i a.vals.length ∧ s.tm 19 = .i k ∧
        s.h = h ++ ([.cells 32 3 [a.av], .grow 9 1 k, .grow 9 1 0] ++ M) := ⟨_, rfl⟩; refine QK I ?_ (m := a.vals.length) ?_
    · intro m' s hs; rw [hI] at hs; obtain ⟨tm, hp⟩ := s; dsimp only at hs; obtain ⟨k, M, rfl, hk, hall, t1, t3, t4, t17, t18, t19, rfl⟩ := hs
      by_cases hlt : k < a.vals.length
      · have cr := QaH a.vals[k]
        obtain ⟨q1, q2⟩ := Qcq (k := k) (by omega) a.vals[k]
        have q3 := Qcy a.vals[k]
        have hle1 : ((txVs a.vals).take k).length = k := by rw [List.length_take, X7]; omega
        have hm1 : k + 1 ≤ maxLen := by simp only [maxLen]; omega
        have hm2 : (k + 1) * 16 ≤ 140737488355328 := by omega
        have ad4 := fun xo yo => Xe Tryz.prog 9 xo yo (vOf (decN k)) eqS (by omega)
        have ad5 := fun xo yo => Xe Tryz.prog 9 xo yo (vOf (decN k) ++ eqS) (txtT a.vals[k]) (by simp only [QA]; omega)
        simp only [eqS] at ad4 ad5
        cases hr : (a.vals[k]).QnF with
        | false =>
          rw [hr] at cr
          rw [hVall k hlt hr]
          repeat (first | ((first | (with_reducible (first | refine Qa fun K E hK hE => ?_ | refine Qk cr ?_))); simp -implicitDefEqProofs only [Qg, Qf, OpW, QI, aop, undef, AS.ev, AV.QnA, ↓reduceIte, Nat.reduceAdd, Nat.reduceLT, Nat.reduceEqDiff, QD, QE, QN, QJ, Qz, aBin, ei29, ti41, zi41, t17, t18, t19, hlt, Xb hlt]) | (with_reducible (first | refine Qd fun K hK => ?_ | refine Qi ?_ | refine Qj ?_ | refine Qn ?_ | refine Qb ?_ | refine Qp ?_ | refine Qs ?_)) | ((with_reducible refine hK _ ?_); clear hK) | (refine Qh rfl ?_; simp only [↓reduceIte]))
          simp only [QC, Ql, Qr, upd, ↓reduceIte, Qom, Qoq]; first | refine Qc (htake _ _) (.keep (.v _)) ⟨rfl, rfl⟩ | refine Qc List.take_length (.keep (.v _)) ⟨rfl, rfl⟩
        | true =>
          rw [hr] at cr
          repeat (first | ((first | (with_reducible (first | refine Qa fun K E hK hE => ?_ | refine Qm fun K E hK hE => ?_ | refine Qk cr ?_ | refine Qau (fun hx hk => FunW.call (QfQ k (Nat.le_trans (Nat.le_of_lt hlt) (Nat.le_trans hv (by decide))) hx ((hG.onto _).kept hk))) ?_ | refine Qau (fun hx hk => FunW.call (QiF a.vals[k] hx ((hG.onto _).kept hk))) ?_)) | (refine QH (id := 11) [(0, 0), (1, 0), (2, 0), (3, 0), (4, 0), (5, 0), (6, 0), (7, 0), (8, 2), (9, 0)] mixed (by kernel_rfl) fun K hK => ?_)); simp -implicitDefEqProofs only [Qg, Qf, OpW, QI, aop, undef, AS.ev, AV.QnA, ↓reduceIte, Nat.reduceAdd, Nat.reduceLT, Nat.reduceLeDiff, Nat.reduceEqDiff, Nat.reduceMul, QD, QE, QN, QJ, Qz, aBin, QM, XG, XV, Nat.reducePow, zi9, ei29, ti41, zi41, ei92, ai92, t3, t17, t18, t19, hlt, Xb hlt, YS, hle1, hm1, hm2, ad4, ad5]) | (with_reducible (first | refine Qd fun K hK => ?_ | refine Qi ?_ | refine Qn ?_ | refine Qb ?_ | refine Qo ?_)) | ((with_reducible refine hK _ ?_); clear hK) | (refine Qh rfl ?_; simp only [↓reduceIte, Qok]))
          refine Q4.mk (m' := a.vals.length - (k + 1)) (by omega) ?_
          rw [hI]
          refine ⟨k + 1, M ++ [.cells 41 4 [(a.vals[k]).av]], rfl, hlt, ?_, t1, ?_, t4, t17, t18, ?_, ?_⟩
          · rw [List.take_succ_eq_append_getElem hlt]
            intro t ht
            rcases List.mem_append.1 ht with ht | ht
            · exact hall t ht
            · rw [List.mem_singleton] at ht; subst ht; exact hr
          · simp only [upd, ↓reduceIte, Nat.reduceEqDiff]
            rw [QfT hlt, QcE]; rfl
          · simp only [upd, ↓reduceIte]
            rw [QT (by omega)]
          · simp
      · have hkl : k = a.vals.length := by omega
        subst hkl
        rw [List.take_length] at hall
        have hVok : ¬ a.vals.all T.QnF = false := by rw [Bool.not_eq_false, List.all_eq_true]; exact hall
        have ht3 : (txVs a.vals).take a.vals.length = txVs a.vals := List.take_of_length_le (by rw [X7]; exact Nat.le_refl _)
        rw [ht3] at t3
        repeat (first | (((with_reducible refine Qa fun K E hK hE => ?_)); simp -implicitDefEqProofs only [Qg, Qf, OpW, aop, AS.ev, ↓reduceIte, Nat.reduceLT, Nat.reduceEqDiff, Qq, QD, QE, aBin, aLen, goInt, ti30, un30, X8, An.cells, t1, t18, t19, hlt, QU]) | (with_reducible (first | refine Qd fun K hK => ?_ | refine Qi ?_ | refine QB ?_ | refine Qb ?_ | refine Qw ?_ | refine Qv ?_)) | ((with_reducible refine hK _ ?_); clear hK) | (clear hK; (with_reducible refine hK _ ?_); clear hK) | (refine Qh rfl ?_; simp only [↓reduceIte, Qok]))
        obtain ⟨I, hI⟩ : ∃ I : Nat → AS → Prop, I = fun m' s => ∃ (k : Nat) (M : AH), m' = a.store.length - k ∧ k ≤ a.store.length ∧ (∀ g ∈ a.store.take k, QS g = true) ∧ s.tm 3 = .sl 1 (strs (txVs a.vals)) (some (h.length + 1)) ∧ s.tm 4 = .sl 1 (strs ((a.store.take k).map txtA)) (some (h.length + 2)) ∧ s.tm 38 = .sl 2 (vs G.atom a.store) none ∧ s.tm 39 = .i a.store.length ∧ s.tm 40 = .i k ∧
            s.h = h ++ ([.cells 32 3 [a.av], .grow 9 1 a.vals.length, .grow 9 1 k] ++ M) := ⟨_, rfl⟩; refine QK I ?_ (m := a.store.length) ?_
        · intro m' s hs; rw [hI] at hs; obtain ⟨tm, hp⟩ := s; dsimp only at hs; obtain ⟨k, M, rfl, hk, halls, t3, t4, t38, t39, t40, rfl⟩ := hs
          by_cases hlt : k < a.store.length
          · have cr := YD a.store[k]
            have hle1 : ((a.store.take k).map txtA).length = k := by rw [List.length_map, List.length_take]; omega
            have hm1 : k + 1 ≤ maxLen := by simp only [maxLen]; omega
            have hm2 : (k + 1) * 16 ≤ 140737488355328 := by omega
            have hgk := hga _ (List.getElem_mem hlt)
            cases hr : QS a.store[k] with
            | false =>
              rw [hr] at cr
              have e : Yv a = eB := by
                rw [Yv, if_neg (by rw [hf]; decide), if_neg hb2, if_neg hVok, if_pos]
                rw [Bool.eq_false_iff]
                intro hq
                rw [List.all_eq_true] at hq
                rw [hq _ (List.getElem_mem hlt)] at hr
                cases hr
              rw [e]
              repeat (first | ((first | (with_reducible (first | refine Qa fun K E hK hE => ?_ | refine Qk cr ?_))); simp -implicitDefEqProofs only [Qg, Qf, OpW, QI, aop, undef, AS.ev, AV.QnA, ↓reduceIte, Nat.reduceAdd, Nat.reduceLT, Nat.reduceEqDiff, QD, QE, QN, QJ, Qz, aBin, ei30, ti45, zi45, t38, t39, t40, hlt, QU, XR G.atom hlt, QR, Q0]) | (with_reducible (first | refine Qd fun K hK => ?_ | refine Qi ?_ | refine Qj ?_ | refine Qn ?_ | refine Qb ?_ | refine Qp ?_ | refine Qs ?_)) | ((with_reducible refine hK _ ?_); clear hK) | (refine Qh rfl ?_; simp only [↓reduceIte]))
              simp only [QC, Ql, Qr, upd, ↓reduceIte, Qom, Qoq]; first | refine Qc (htake _ _) (.keep (.v _)) ⟨rfl, rfl⟩ | refine Qc List.take_length (.keep (.v _)) ⟨rfl, rfl⟩
            | true =>
              rw [hr] at cr
              repeat (first | ((first | (with_reducible (first | refine Qa fun K E hK hE => ?_ | refine Qm fun K E hK hE => ?_ | refine Qk cr ?_ | refine FunW.ret (FunW.call (QeM a.store[k] hgk _ (hG.onto _))) ?_))); simp -implicitDefEqProofs only [Qg, Qf, OpW, QI, aop, undef, AS.ev, AV.QnA, ↓reduceIte, Nat.reduceAdd, Nat.reduceLT, Nat.reduceLeDiff, Nat.reduceEqDiff, Nat.reduceMul, QD, QE, QN, QJ, Qz, aBin, QM, XG, XV, Nat.reducePow, zi9, ei30, ti45, zi45, ei92, ai92, t4, t38, t39, t40, hlt, QU, XR G.atom hlt, QR, Q0, YS, hle1, hm1, hm2]) | (with_reducible (first | refine Qd fun K hK => ?_ | refine Qi ?_ | refine Qn ?_ | refine Qb ?_ | refine Qo ?_)) | ((with_reducible refine hK _ ?_); clear hK) | (refine Qh rfl ?_; simp only [↓reduceIte, Qok]))
              refine Q4.mk (m' := a.store.length - (k + 1)) (by omega) ?_
              rw [hI]
              refine ⟨k + 1, M ++ [.cells 45 2 [(a.store[k]).atom]], rfl, hlt, ?_, t3, ?_, t38, t39, ?_, ?_⟩
              · rw [List.take_succ_eq_append_getElem hlt]
                intro t ht
                rcases List.mem_append.1 ht with ht | ht
                · exact halls t ht
                · rw [List.mem_singleton] at ht; subst ht; exact hr
              · simp only [upd, ↓reduceIte, Nat.reduceEqDiff]
                rw [List.take_succ_eq_append_getElem hlt, List.map_append, QcE]; rfl
              · simp only [upd, ↓reduceIte]
                rw [QT (by omega)]
              · simp
          · have hkl : k = a.store.length := by omega
            subst hkl
            rw [List.take_length] at halls t4
            have hSok : ¬ a.store.all QS = false := by rw [Bool.not_eq_false, List.all_eq_true]; exact halls
            have e : Yv a = if 0 < a.store.length then XY (txVs a.vals) cmS ++ smS ++ (spS ++ XY (a.store.map txtA) cmS) else XY (txVs a.vals) cmS ++ smS := by
              rw [Yv, if_neg (by rw [hf]; decide), if_neg hb2, if_neg hVok, if_neg hSok]
            by_cases hp : 0 < a.store.length
            · have hpI : ((a.store.length : Nat) : Int) > 0 := by omega
              rw [if_pos hp] at e
              repeat (first | ((first | (with_reducible (first | refine Qa fun K E hK hE => ?_ | refine Qm fun K E hK hE => ?_ | refine Qk (cj1 _) ?_ | refine Qk (cj2 _) ?_))); simp -implicitDefEqProofs only [Qg, Qf, OpW, QI, aop, AS.ev, ↓reduceIte, Nat.reduceLT, Nat.reduceEqDiff, aBin, aLen, goInt, un92, t3, t4, t39, t40, hlt, YS, List.length_map, hpI, ad1, ad2, ad3]) | (with_reducible (first | refine Qd fun K hK => ?_ | refine Qj ?_ | refine QB ?_ | refine Qb ?_ | refine Qw ?_ | refine Qv ?_)) | ((with_reducible refine hK _ ?_); clear hK) | (clear hK; (with_reducible refine hK _ ?_); clear hK) | (refine Qh rfl ?_; simp only [↓reduceIte, Qok]))
              simp only [QC, Ql, Qr, upd, ↓reduceIte, Qom, Qoq]; first | refine Qc (htake _ _) (.keep (.v _)) ⟨by rw [e]; rfl, rfl⟩ | refine Qc List.take_length (.keep (.v _)) ⟨by rw [e]; rfl, rfl⟩
            · have hpI : ¬ ((a.store.length : Nat) : Int) > 0 := by omega
              rw [if_neg hp] at e
              repeat (first | ((first | (with_reducible (first | refine Qa fun K E hK hE => ?_ | refine Qk (cj1 _) ?_))); simp -implicitDefEqProofs only [Qg, Qf, OpW, QI, aop, AS.ev, ↓reduceIte, Nat.reduceLT, Nat.reduceEqDiff, aBin, aLen, goInt, un92, t3, t4, t39, t40, hlt, YS, List.length_map, hpI, ad1]) | (with_reducible (first | refine Qd fun K hK => ?_ | refine Qj ?_ | refine Qn ?_ | refine QB ?_ | refine Qb ?_ | refine Qw ?_ | refine Qv ?_)) | ((with_reducible refine hK _ ?_); clear hK) | (clear hK; (with_reducible refine hK _ ?_); clear hK) | (refine Qh rfl ?_; simp only [↓reduceIte, Qok]))
              simp only [QC, Ql, Qr, upd, ↓reduceIte, Qom, Qoq]; first | refine Qc (htake _ _) (.keep (.v _)) ⟨by rw [e]; rfl, rfl⟩ | refine Qc List.take_length (.keep (.v _)) ⟨by rw [e]; rfl, rfl⟩
        · rw [hI]
          exact ⟨0, M, by omega, Nat.zero_le _, by simp, t3, t4, rfl, by simp only [upd, ↓reduceIte, Nat.reduceEqDiff], rfl, rfl⟩
    · rw [hI]
      exact ⟨0, [], by omega, Nat.zero_le _, by simp, rfl, by simp only [upd, ↓reduceIte, Nat.reduceEqDiff]; simp [strs], by simp only [upd, ↓reduceIte]; simp, rfl, by simp only [upd, ↓reduceIte, Nat.reduceEqDiff], rfl, by simp⟩
end Go.Proofs.YtniljpjjnmkoaaaGreatDoor.Ab
set_option maxRecDepth 100000
namespace Go.Proofs.YtniljpjjnmkoaaaGreatDoor.Ab
open Go.Proofs
def pS : ByteArray := { data := #[112] }
def qS : ByteArray := { data := #[113] }
def fS : ByteArray := { data := #[102] }
def itV (id : Int) (n : ByteArray) (x y : Int) : It := ⟨id, ⟨0, n, [vT x, vT y]⟩⟩
def exA1 : An := ⟨false, [], [⟨0, pS, [vT 0, vT 1]⟩, ⟨0, pS, [vT 1, vT 0]⟩]⟩
def exA2 : An := ⟨false, [.mk 2 0 fS [vT 1]], [⟨0, qS, [vT 1, vT 2]⟩]⟩
def exA3 : An := ⟨true, [], []⟩
def exB2 : List (Int × T) := [(0, .mk 2 0 fS [vT 5])]
theorem Qmr : ofC 0 [] [itV 1 pS 7 9, itV 2 pS 9 7] false = (exA1, 0) := by kernel_rfl
theorem QmM : ofC 1 exB2 [itV 4 qS 5 3] false = (exA2, 0) := by kernel_rfl
theorem QmW : ofC 2 [] [] true = (exA3, 0) := by kernel_rfl
theorem QlY : QfE 0 [] [itV 1 pS 7 9, itV 2 pS 9 7] = false := by kernel_rfl
theorem QlI : QfE 1 exB2 [itV 4 qS 5 3] = false := by kernel_rfl
theorem Ql9 : QfE 2 [] [] = false := by kernel_rfl
def tx1 : ByteArray := { data := #[59, 32, 112, 40, 86, 48, 44, 32, 86, 49, 41, 44, 32, 112, 40, 86, 49, 44, 32, 86, 48, 41] }
def tx2 : ByteArray := { data := #[86, 48, 32, 61, 32, 102, 40, 86, 49, 41, 59, 32, 113, 40, 86, 49, 44, 32, 86, 50, 41] }
theorem Qmi : Yv exA1 = tx1 := by kernel_rfl
theorem Qmm : Yv exA2 = tx2 := by kernel_rfl
theorem QmK : Yv exA3 = flS := by kernel_rfl
theorem Qmk : Yv An.nil = smS := by kernel_rfl
theorem Qm6 : YW exA1 exA3 = -1 := by kernel_rfl
theorem QmU : YW exA2 exA2 = 0 := by kernel_rfl
theorem Qc5 (id : Int) (n : ByteArray) (x y : Int) : Pure Tryz.prog 30 [.i id, .v (.string n), .i x, .i y] (itV id n x y).av := by
  intro h
  have c1 : Pure Tryz.prog 16 [.i x] (vT x).av := Qgt x
  have c2 : Pure Tryz.prog 16 [.i y] (vT y).av := Qgt y
  refine Qe Tryz.func30 rfl Tryz.call30 Tryz.ntmps30 (congrArg Array.toList Tryz.results30) (by simp) ?_
  repeat (first | ((first | (with_reducible (first | refine Qa fun K E hK hE => ?_ | refine Qm fun K E hK hE => ?_ | refine Qk c1 ?_ | refine Qt c1 ?_ | refine Qk c2 ?_ | refine Qt c2 ?_))); simp -implicitDefEqProofs only [Qg, Qf, OpW, QI, aop, undef, AS.ev, Qu, AV.QnA, ↓reduceIte, Nat.reduceAdd, Nat.reduceLT, Nat.reduceLeDiff, Nat.reduceEqDiff, Nat.reduceMul, QN, QJ, XS, Yb, QM, Nat.reducePow, ei29, zi41, zi45, sp45, ti48, zi48, sp48]) | (with_reducible (first | refine Qd fun K hK => ?_ | refine Qi ?_ | refine Qj ?_ | refine QP ?_ | refine QQ ?_ | refine Qn ?_ | refine QB ?_ | refine Qb ?_ | refine Qp ?_ | refine Qw ?_ | refine Qo ?_ | refine Qs ?_ | refine Qv ?_ | refine QL rfl ?_)) | (with_reducible (first | refine hK _ ?_ | (clear hK; refine hK _ ?_) | (clear hK; clear hK; refine hK _ ?_) | (clear hK; clear hK; clear hK; refine hK _ ?_)); clear hK) | (refine Qh rfl ?_; simp only [↓reduceIte, Qok]) | (intro (b : Bool); cases b))
  simp -implicitDefEqProofs only [Qg, ↓reduceIte, Nat.reduceAdd, Nat.reduceEqDiff, QD, QE, ti48, QD, QE, QC, Ql, Qr, Qoq]
  refine Qc (r' := (itV id n x y).av) (htake _ _) ?_ ⟨rfl, rfl⟩
  refine .keep (.agg _ fun a ha => ?_)
  simp only [List.mem_cons, List.not_mem_nil, or_false] at ha
  rcases ha with rfl | rfl | rfl
  · exact .v _
  · exact .v _
  · exact Yh _ [vT x, vT y]
theorem QlH (s : ByteArray) (t : T) : Pure Tryz.prog 31 [.v (.string s), .sl 4 [t.av] none] (T.mk 2 0 s [t]).av := by
  intro h
  have h1 : 1 ≤ maxLen := by simp only [maxLen]; omega
  refine Qe Tryz.func31 rfl Tryz.call31 Tryz.ntmps31 (congrArg Array.toList Tryz.results31) (by simp) ?_
  repeat (first | ((first | (with_reducible (first | refine Qa fun K E hK hE => ?_ | refine Qm fun K E hK hE => ?_ | refine Ql2 ?_))); simp -implicitDefEqProofs only [Qg, Qf, OpW, aop, undef, AS.ev, Qu, AV.QnA, ↓reduceIte, Nat.reduceAdd, Nat.reduceLT, Nat.reduceLeDiff, Nat.reduceEqDiff, Nat.reduceMul, QN, QJ, XS, Yb, QM, XG, XV, Nat.reducePow, ei29, ai29, ti41, zi41, sp41, h1]) | (with_reducible (first | refine Qd fun K hK => ?_ | refine Qi ?_ | refine Qj ?_ | refine QP ?_ | refine QQ ?_ | refine Qn ?_ | refine QB ?_ | refine Qb ?_ | refine Qp ?_ | refine Qw ?_ | refine Qo ?_ | refine Qs ?_ | refine Qv ?_ | refine QL rfl ?_)) | (with_reducible (first | refine hK _ ?_ | (clear hK; refine hK _ ?_) | (clear hK; clear hK; refine hK _ ?_) | (clear hK; clear hK; clear hK; refine hK _ ?_)); clear hK) | (refine Qh rfl ?_; simp only [↓reduceIte, Qok]) | (intro (b : Bool); cases b))
  simp -implicitDefEqProofs only [Qg, ↓reduceIte, Nat.reduceAdd, Nat.reduceEqDiff, QD, QE, ti41, QD, QE, QC, Ql, Qr, Qoq]
  refine Qc (r' := (T.mk 2 0 s [t]).av) (htake _ _) ?_ ⟨rfl, rfl⟩
  exact .agg rfl (Xn (.keep (.v _)) (Xn (.keep (.v _)) (Xn (.keep (.v _)) (Yz (.tok (YY _ [t]))))))
theorem okV (x : Int) (h : i64 x) : (vT x).ok := ⟨by unfold i64; omega, h, by decide, trivial⟩
end Go.Proofs.YtniljpjjnmkoaaaGreatDoor.Ab
set_option maxRecDepth 4000
namespace Go.Proofs.YtniljpjjnmkoaaaGreatDoor.Ab
open Go.Proofs
theorem QmQ : SmallC [] [itV 1 pS 7 9, itV 2 pS 9 7] := ⟨by decide, by simp, by simp, by decide, by decide, by
  intro x hx
  simp only [List.mem_cons, List.not_mem_nil, or_false] at hx
  rcases hx with rfl | rfl
  · exact ⟨okV 7 (by unfold i64; omega), okV 9 (by unfold i64; omega), trivial⟩
  · exact ⟨okV 9 (by unfold i64; omega), okV 7 (by unfold i64; omega), trivial⟩⟩
theorem QmT : SmallC exB2 [itV 4 qS 5 3] := ⟨by decide, by decide, by
    intro x hx
    simp only [exB2, List.mem_singleton] at hx
    subst hx
    exact ⟨by unfold i64; omega, by unfold i64; omega, by unfold i64; omega, by decide, okV 5 (by unfold i64; omega), trivial⟩, by decide, by decide, by
  intro x hx
  simp only [List.mem_singleton] at hx
  subst hx
  exact ⟨okV 5 (by unfold i64; omega), okV 3 (by unfold i64; omega), trivial⟩⟩
theorem Qm9 : SmallC [] [] := ⟨by decide, by simp, by simp, by decide, by simp, by simp⟩
theorem Qnz : Pure Tryz.prog 11 [.i 0, .v (.slice none 0 0), .sl 3 [(itV 1 pS 7 9).av, (itV 2 pS 9 7).av] none, .v (.bool false)] (.tup [exA1.av, .i 0]) := by
  have := QjA 0 [] [itV 1 pS 7 9, itV 2 pS 9 7] QmQ QlY
  rw [Qmr] at this
  exact Zi (.cons (.refl _) (.cons (.nilS 5) (.cons (.refl _) (.cons (.refl _) .nil)))) this
theorem Qno : Pure Tryz.prog 11 [.i 1, .sl 5 [bav (0, .mk 2 0 fS [vT 5])] none, .sl 3 [(itV 4 qS 5 3).av] none, .v (.bool false)] (.tup [exA2.av, .i 0]) := by
  have := QjA 1 exB2 [itV 4 qS 5 3] QmT QlI
  rw [QmM] at this
  exact this
theorem Qnf : Pure Tryz.prog 11 [.i 2, .v (.slice none 0 0), .v (.slice none 0 0), .v (.bool true)] (.tup [exA3.av, .i 0]) := by
  have := Qka 2 [] [] Qm9 Ql9
  rw [QmW] at this
  exact Zi (.cons (.refl _) (.cons (.nilS 5) (.cons (.nilS 3) (.cons (.refl _) .nil)))) this
theorem ex_t (a : An) (s : ByteArray) (e : Yv a = s) (hv : a.vals.length ≤ 1000) (hs : a.store.length ≤ 1000) (hga : ∀ g ∈ a.store, g.args.length ≤ 1000000) (h : AH) (hG : Xm h) : Q9 Tryz.prog 23 [a.av] h fun o h' => o = .ret (.v (.string s)) ∧ h' = h := by
  have := Qdg a hv hs hga h hG
  rwa [e] at this
theorem XQ (h : AH) (hG : Xm h) : Q9 Tryz.prog 10 [] h fun o h' => o = .ret (.b true) ∧ h' = h := by
  have q1 := Qc5 1 pS 7 9
  have q2 := Qc5 2 pS 9 7
  have q3 := Qc5 4 qS 5 3
  have v5 : Pure Tryz.prog 16 [.i 5] (vT 5).av := Qgt 5
  have cf := QlH fS (vT 5)
  have c1 := Qnz
  have c2 := Qno
  have c3 := Qnf
  have t1 := fun L => ex_t exA1 tx1 Qmi (by decide) (by decide) (by decide) (h ++ L) (hG.onto L)
  have t2 := fun L => ex_t exA2 tx2 Qmm (by decide) (by decide) (by decide) (h ++ L) (hG.onto L)
  have t3 := fun L => ex_t exA3 flS QmK (by decide) (by decide) (by decide) (h ++ L) (hG.onto L)
  have t4 : ∀ L, Q9 Tryz.prog 23 [.agg [.v (.bool false), .v (.slice none 0 0), .v (.slice none 0 0)]] (h ++ L) fun o h' => o = .ret (.v (.string smS)) ∧ h' = h ++ L := fun L =>
    Qag (.cons (.agg (.cons (.refl _) (.cons (.nilS 4) (.cons (.nilS 2) .nil)))) .nil) (ex_t An.nil smS Qmk (by decide) (by decide) (by decide) (h ++ L) (hG.onto L))
  have k1 := Xs exA1 exA3 (by decide) (by decide)
  rw [Qm6] at k1
  have k2 := Xs exA2 exA2 (by decide) (by decide)
  rw [QmU] at k2
  simp only [pS, qS, fS, tx1, tx2, flS, smS] at q1 q2 q3 cf c1 t1 t2 t3 t4
  simp only [bav, qS, fS] at c2
  refine Qe Tryz.func10 rfl Tryz.call10 Tryz.ntmps10 (congrArg Array.toList Tryz.results10) (by simp) ?_
  iterate 16 (try (first | ((first | (with_reducible (first | refine Qa fun K E hK hE => ?_ | refine Qk q1 ?_ | refine Qk q2 ?_ | refine Qk q3 ?_ | refine Qk v5 ?_ | refine Qk cf ?_ | refine Qk c1 ?_ | refine Qk c2 ?_ | refine Qk c3 ?_))); simp -implicitDefEqProofs only [Qg, Qf, OpW, QI, aop, undef, AS.ev, Qu, AV.QnA, ↓reduceIte, Nat.reduceAdd, Nat.reduceLT, Nat.reduceLeDiff, Nat.reduceEqDiff, Nat.reduceMul, QN, QJ, Xu, XS, Yb, QM, Nat.reducePow, ei23, ei24, ei29, ti32, zi32, zi41, zi48, zi52, sp52, It.cells, An.cells, An.isAgg]) | ((with_reducible refine hK _ ?_); clear hK)))
  clear q1 q2 q3 v5 cf c1 c2 c3
  have z0 : ((0 : Int) == 0) = true := by decide
  have z1 : ((-1 : Int) == -1) = true := by decide
  (with_reducible refine Qa fun K E hK hE => ?_)
  (try simp only [QoR]); refine QF 5 (fun K1 hK1 => ?_); simp -implicitDefEqProofs only [Qg, Qf, OpW, aop, AS.ev, ↓reduceIte, Nat.reduceAdd, Nat.reduceLT, Nat.reduceEqDiff, QD, QE, aBin, ti32, An.cells, An.isAgg]; (repeat ((((with_reducible refine FunW.ret (FunW.call (t1 _)) ?_)); simp -implicitDefEqProofs only [Q1, QI, Q2, Nat.reduceLT]))); refine hK1 _ ?_; clear hK1
  (try simp only [Qop, Qox]); refine QF 6 (fun K1 hK1 => ?_); simp -implicitDefEqProofs only [Qg, Qf, OpW, aop, AS.ev, ↓reduceIte, Nat.reduceLT, Nat.reduceEqDiff, aBin]; refine hK1 _ ?_; clear hK1
  (try simp only [Qop, Qox]); refine QF 3 (fun K1 hK1 => ?_); simp -implicitDefEqProofs only [Qg, Qf, OpW, aop, AS.ev, ↓reduceIte, Nat.reduceAdd, Nat.reduceLT, Nat.reduceEqDiff, QD, QE, ti32, An.cells, An.isAgg]; (repeat ((((with_reducible refine FunW.ret (FunW.call (t2 _)) ?_)); simp -implicitDefEqProofs only [Q1, QI, Q2, Nat.reduceLT]))); refine hK1 _ ?_; clear hK1
  (try simp only [Qop, Qox]); refine QF 6 (fun K1 hK1 => ?_); simp -implicitDefEqProofs only [Qg, Qf, OpW, aop, AS.ev, ↓reduceIte, Nat.reduceLT, Nat.reduceEqDiff, aBin]; refine hK1 _ ?_; clear hK1
  (try simp only [Qop, Qox]); refine QF 3 (fun K1 hK1 => ?_); simp -implicitDefEqProofs only [Qg, Qf, OpW, aop, AS.ev, ↓reduceIte, Nat.reduceAdd, Nat.reduceLT, Nat.reduceEqDiff, QD, QE, ti32, An.cells, An.isAgg]; (repeat ((((with_reducible refine FunW.ret (FunW.call (t3 _)) ?_)); simp -implicitDefEqProofs only [Q1, QI, Q2, Nat.reduceLT]))); refine hK1 _ ?_; clear hK1
  (try simp only [Qop, Qox]); refine QF 5 (fun K1 hK1 => ?_); simp -implicitDefEqProofs only [Qg, Qf, OpW, aop, AS.ev, ↓reduceIte, Nat.reduceAdd, Nat.reduceLT, Nat.reduceEqDiff, QD, QE, aBin, ti32, An.cells, An.isAgg]; refine hK1 _ ?_; clear hK1
  (try simp only [Qop, Qox]); refine QF 3 (fun K1 hK1 => ?_); simp -implicitDefEqProofs only [Qg, Qf, OpW, AS.ev, ↓reduceIte, Nat.reduceEqDiff]; (repeat ((((with_reducible refine Qk k1 ?_)); simp -implicitDefEqProofs only [Qg, Qf, OpW, QI, aop, AS.ev, ↓reduceIte, Nat.reduceLT, Nat.reduceEqDiff, aBin]))); refine hK1 _ ?_; clear hK1
  (try simp only [Qop, Qox]); refine QF 3 (fun K1 hK1 => ?_); simp -implicitDefEqProofs only [Qg, Qf, OpW, aop, AS.ev, ↓reduceIte, Nat.reduceAdd, Nat.reduceLT, Nat.reduceEqDiff, QD, QE, ti32, An.cells, An.isAgg]; refine hK1 _ ?_; clear hK1
  (try simp only [Qop, Qox]); refine QF 3 (fun K1 hK1 => ?_); simp -implicitDefEqProofs only [Qg, Qf, OpW, AS.ev, ↓reduceIte, Nat.reduceEqDiff]; (repeat ((((with_reducible refine Qk k2 ?_)); simp -implicitDefEqProofs only [Qg, Qf, OpW, QI, aop, AS.ev, ↓reduceIte, Nat.reduceLT, Nat.reduceEqDiff, aBin]))); refine hK1 _ ?_; clear hK1
  (try simp only [Qop, Qox]); refine QF 2 (fun K1 hK1 => ?_); simp -implicitDefEqProofs only [Qg, Qf, OpW, aop, undef, AS.ev, Qu, AV.QnA, ↓reduceIte, Nat.reduceLT, XS, Yb, zi32, sp32]; refine hK1 _ ?_; clear hK1
  (try simp only [Qop, Qox])
  simp -implicitDefEqProofs only [Qg, Qf, OpW, AS.ev, ↓reduceIte, Nat.reduceEqDiff]
  repeat (first | (((with_reducible refine FunW.ret (FunW.call (t4 _)) ?_)); simp -implicitDefEqProofs only [Qg, Qf, OpW, QI, aop, AS.ev, ↓reduceIte, Nat.reduceLT, Nat.reduceEqDiff, aBin]) | (with_reducible refine Qj ?_) | ((with_reducible refine hK _ ?_); clear hK))
  simp only [QC, Ql, Qr, upd, ↓reduceIte, Qom, Qoq]
  exact Qc (htake _ _) (.keep (.v _)) ⟨rfl, rfl⟩
end Go.Proofs.YtniljpjjnmkoaaaGreatDoor.Ab
set_option maxRecDepth 4000
namespace Go.Proofs.YtniljpjjnmkoaaaGreatDoor.Ab
open Go.Proofs
theorem Qb7 (a b : Int) : Pure Tryz.prog 54 [.i a, .i b] (.i (cmpI a b)) := by
  intro h
  by_cases h1 : a < b
  · have e : cmpI a b = -1 := by rw [cmpI, if_pos h1]
    rw [e]
    refine Qe Tryz.func54 rfl Tryz.call54 Tryz.ntmps54 (congrArg Array.toList Tryz.results54) (by simp) ?_
    repeat (first | (((with_reducible refine Qa fun K E hK hE => ?_)); simp -implicitDefEqProofs only [Qg, Qf, OpW, aop, undef, AS.ev, Qu, ↓reduceIte, Nat.reduceLT, Nat.reduceEqDiff, aBin, h1]) | (with_reducible (first | refine Qd fun K hK => ?_ | refine Qi ?_ | refine Qj ?_ | refine Qp ?_ | refine Qs ?_)) | ((with_reducible refine hK _ ?_); clear hK) | (refine Qh rfl ?_; simp only [↓reduceIte]))
    simp only [QC, Ql, Qr, upd, ↓reduceIte, Qom, Qoq]; first | refine Qc (htake _ _) (.keep (.v _)) ⟨rfl, rfl⟩ | refine Qc List.take_length (.keep (.v _)) ⟨rfl, rfl⟩
  · by_cases h2 : a > b
    · have e : cmpI a b = 1 := by rw [cmpI, if_neg h1, if_pos h2]
      rw [e]
      refine Qe Tryz.func54 rfl Tryz.call54 Tryz.ntmps54 (congrArg Array.toList Tryz.results54) (by simp) ?_
      repeat (first | (((with_reducible refine Qa fun K E hK hE => ?_)); simp -implicitDefEqProofs only [Qg, Qf, OpW, aop, undef, AS.ev, Qu, ↓reduceIte, Nat.reduceLT, Nat.reduceEqDiff, aBin, h1, h2]) | (with_reducible (first | refine Qd fun K hK => ?_ | refine Qi ?_ | refine Qj ?_ | refine Qp ?_ | refine Qs ?_)) | ((with_reducible refine hK _ ?_); clear hK) | (refine Qh rfl ?_; simp only [↓reduceIte, Qok]))
      simp only [QC, Ql, Qr, upd, ↓reduceIte, Qom, Qoq]; first | refine Qc (htake _ _) (.keep (.v _)) ⟨rfl, rfl⟩ | refine Qc List.take_length (.keep (.v _)) ⟨rfl, rfl⟩
    · have e : cmpI a b = 0 := by rw [cmpI, if_neg h1, if_neg h2]
      rw [e]
      refine Qe Tryz.func54 rfl Tryz.call54 Tryz.ntmps54 (congrArg Array.toList Tryz.results54) (by simp) ?_
      repeat (first | (((with_reducible refine Qa fun K E hK hE => ?_)); simp -implicitDefEqProofs only [Qg, Qf, OpW, aop, undef, AS.ev, Qu, ↓reduceIte, Nat.reduceLT, Nat.reduceEqDiff, aBin, h1, h2]) | (with_reducible (first | refine Qd fun K hK => ?_ | refine Qi ?_ | refine Qj ?_ | refine Qn ?_ | refine Qb ?_ | refine Qo ?_)) | ((with_reducible refine hK _ ?_); clear hK) | (refine Qh rfl ?_; simp only [↓reduceIte, Qok]))
      simp only [QC, Ql, Qr, upd, ↓reduceIte, Qom, Qoq]; first | refine Qc (htake _ _) (.keep (.v _)) ⟨rfl, rfl⟩ | refine Qc List.take_length (.keep (.v _)) ⟨rfl, rfl⟩
theorem Qi0 {l m : List T} {k : Nat} (h1 : k ≤ l.length) (h2 : k ≤ m.length) (h : ¬ (k < l.length ∧ k < m.length)) : cmpL (l.drop k) (m.drop k) = cmpI l.length m.length := by
  by_cases hl : k < l.length
  · have hm : k = m.length := by omega
    rw [hm, List.drop_length, List.drop_eq_getElem_cons (by omega), cmpL, cmpI, if_neg (by omega), if_pos (by omega)]
  · have hkl : k = l.length := by omega
    rw [hkl, List.drop_length]
    by_cases hm : l.length < m.length
    · rw [List.drop_eq_getElem_cons hm, cmpL, cmpI, if_pos (by omega)]
    · have : l.length = m.length := by omega
      rw [this, List.drop_length, cmpL, cmpI, if_neg (by omega), if_neg (by omega)]
theorem QdR {l m : List G} {k : Nat} (h1 : k ≤ l.length) (h2 : k ≤ m.length) (h : ¬ (k < l.length ∧ k < m.length)) : Xz (l.drop k) (m.drop k) = cmpI l.length m.length := by
  by_cases hl : k < l.length
  · have hm : k = m.length := by omega
    rw [hm, List.drop_length, List.drop_eq_getElem_cons (by omega), Xz, cmpI, if_neg (by omega), if_pos (by omega)]
  · have hkl : k = l.length := by omega
    rw [hkl, List.drop_length]
    by_cases hm : l.length < m.length
    · rw [List.drop_eq_getElem_cons hm, Xz, cmpI, if_pos (by omega)]
    · have : l.length = m.length := by omega
      rw [this, List.drop_length, Xz, cmpI, if_neg (by omega), if_neg (by omega)]
theorem Z7 (f : Bool) (v v' : List T) (l l' : List G) (hv : ndsL v ≤ 1000000) (hs : gsN l ≤ 1000000) : Pure Tryz.prog 22 [(An.mk f v l).av, (An.mk f v' l').av] (.i (lexI (cmpL v v') (Xz l l'))) := by
  intro h
  have hll := QW v
  have hgl := Zc l
  have hbn : ∀ xo yo, pv Tryz.prog (do eqGuard .neq 4 xo yo (.bool f) (.bool f); binOp .neq 4 (.bool f) (.bool f)) = some (.bool false) := by intro xo yo; cases f <;> rfl
  have cl1 := Qb7 v.length v'.length
  have cl2 := Qb7 l.length l'.length
  refine Qe Tryz.func22 rfl Tryz.call22 Tryz.ntmps22 (congrArg Array.toList Tryz.results22) (by simp) ?_
  repeat (first | (((with_reducible refine Qa fun K E hK hE => ?_)); simp -implicitDefEqProofs only [Qg, Qf, OpW, aop, undef, AS.ev, Qu, AV.QnA, ↓reduceIte, Nat.reduceAdd, Nat.reduceLT, Nat.reduceEqDiff, Qq, QD, QE, aBin, ti4, ZJ, An.cells, hbn]) | (with_reducible (first | refine Qd fun K hK => ?_ | refine Qi ?_ | refine Qn ?_ | refine Qb ?_)) | ((with_reducible refine hK _ ?_); clear hK) | (refine Qh rfl ?_; simp only [↓reduceIte, Qok]))
  obtain ⟨I, hI⟩ : ∃ I : Nat → AS → Prop, I = fun m' s => ∃ (k : Nat), m' = v.length - k ∧ k ≤ v.length ∧ k ≤ v'.length ∧ cmpL v v' = cmpL (v.drop k) (v'.drop k) ∧ s.tm 2 = .ptr h.length 0 0 ∧ s.tm 3 = .ptr (h.length + 1) 0 0 ∧ s.tm 5 = .i k ∧ s.h = h ++ [.cells 32 3 [(An.mk f v l).av], .cells 32 3 [(An.mk f v' l').av]] := ⟨_, rfl⟩; refine QK I ?_ (m := v.length) ?_
  · intro m' s hs; rw [hI] at hs; obtain ⟨tm, hp⟩ := s; dsimp only at hs; obtain ⟨k, rfl, hk, hk2, hor, t2, t3, t5, rfl⟩ := hs
    by_cases hlt : k < v.length ∧ k < v'.length
    · obtain ⟨hlt1, hlt2⟩ := hlt
      have hd := Qa1 hlt1 hlt2
      have hc := YP 1000000 (Nat.le_refl _) v[k] v'[k] (Nat.le_trans (Yc hlt1) hv)
      cases ha : (cmpT v[k] v'[k] != 0) with
      | true =>
        rw [if_pos ha] at hd
        have e : lexI (cmpL v v') (Xz l l') = cmpT v[k] v'[k] := by rw [hor, hd, lexI, if_pos ha]
        repeat (first | ((first | (with_reducible (first | refine Qa fun K E hK hE => ?_ | refine Qt hc ?_)) | (refine Qy (id := 8) [(0, 0), (1, 0), (2, 0), (3, 0), (4, 0), (5, 0), (6, 0), (7, 0), (8, 0), (9, 0), (10, 1), (11, 0)] mixed (by kernel_rfl) fun K hK => ?_)); simp -implicitDefEqProofs only [Qg, Qf, OpW, aop, AS.ev, ↓reduceIte, Nat.reduceAdd, Nat.reduceLT, Nat.reduceLeDiff, Nat.reduceEqDiff, Qq, QD, QE, Qz, aBin, aLen, goInt, ti29, ei29, un29, Yf, ti41, An.cells, t2, t3, t5, hlt1, hlt2, Xb hlt1, Xb hlt2, ha]) | (with_reducible (first | refine Qd fun K hK => ?_ | refine Qi ?_ | refine Qj ?_ | refine Qn ?_ | refine Qb ?_ | refine Qp ?_ | refine Qs ?_)) | ((with_reducible refine hK _ ?_); clear hK) | (refine Qh rfl ?_; simp only [↓reduceIte]))
        simp only [QC, Ql, Qr, upd, ↓reduceIte, Qom, Qoq]; first | refine Qc (htake _ _) (.keep (.v _)) ⟨by rw [e], rfl⟩ | refine Qc List.take_length (.keep (.v _)) ⟨by rw [e], rfl⟩
      | false =>
        repeat (first | ((first | (with_reducible (first | refine Qa fun K E hK hE => ?_ | refine Qm fun K E hK hE => ?_ | refine Qt hc ?_)) | (refine Qy (id := 8) [(0, 0), (1, 0), (2, 0), (3, 0), (4, 0), (5, 0), (6, 0), (7, 0), (8, 0), (9, 0), (10, 1), (11, 0)] mixed (by kernel_rfl) fun K hK => ?_)); simp -implicitDefEqProofs only [Qg, Qf, OpW, aop, AS.ev, ↓reduceIte, Nat.reduceAdd, Nat.reduceLT, Nat.reduceLeDiff, Nat.reduceEqDiff, Qq, QD, QE, Qz, aBin, aLen, goInt, ti29, ei29, un29, Yf, ti41, An.cells, t2, t3, t5, hlt1, hlt2, Xb hlt1, Xb hlt2, ha]) | (with_reducible (first | refine Qd fun K hK => ?_ | refine Qi ?_ | refine Qn ?_ | refine Qb ?_ | refine Qo ?_)) | ((with_reducible refine hK _ ?_); clear hK) | (refine Qh rfl ?_; simp only [↓reduceIte, Qok]))
        refine Q4.mk (m' := v.length - (k + 1)) (by omega) ?_
        rw [hI]
        refine ⟨k + 1, rfl, hlt1, hlt2, ?_, t2, t3, ?_, rfl⟩
        · rw [hor, hd, ha]; rfl
        · simp only [upd, ↓reduceIte]
          rw [QT (by omega)]
    · have hz := Qi0 hk hk2 hlt
      rw [← hor] at hz
      by_cases hl1 : k < v.length
      · have hl2 : ¬ k < v'.length := fun q => hlt ⟨hl1, q⟩
        cases hq : (cmpI v.length v'.length != 0) with
        | true =>
          have e : lexI (cmpL v v') (Xz l l') = cmpI v.length v'.length := by rw [hz, lexI, if_pos hq]
          repeat (first | ((first | (with_reducible (first | refine Qa fun K E hK hE => ?_ | refine Qk cl1 ?_))); simp -implicitDefEqProofs only [Qg, Qf, OpW, QI, aop, AS.ev, ↓reduceIte, Nat.reduceLT, Nat.reduceEqDiff, Qq, QD, QE, aBin, aLen, goInt, ti29, un29, Yf, An.cells, t2, t3, t5, hl1, hl2, hq]) | (with_reducible (first | refine Qd fun K hK => ?_ | refine Qj ?_ | refine QB ?_ | refine Qb ?_ | refine Qp ?_ | refine Qw ?_ | refine Qv ?_)) | ((with_reducible refine hK _ ?_); clear hK) | (clear hK; (with_reducible refine hK _ ?_); clear hK) | (refine Qh rfl ?_; simp only [↓reduceIte, Qok]))
          simp only [QC, Ql, Qr, upd, ↓reduceIte, Qom, Qoq]; first | refine Qc (htake _ _) (.keep (.v _)) ⟨by rw [e], rfl⟩ | refine Qc List.take_length (.keep (.v _)) ⟨by rw [e], rfl⟩
        | false =>
          have e0 : lexI (cmpL v v') (Xz l l') = Xz l l' := by rw [hz, lexI, hq]; rfl
          repeat (first | ((first | (with_reducible (first | refine Qa fun K E hK hE => ?_ | refine Qk cl1 ?_))); simp -implicitDefEqProofs only [Qg, Qf, OpW, QI, aop, AS.ev, ↓reduceIte, Nat.reduceLT, Nat.reduceEqDiff, Qq, QD, QE, aBin, aLen, goInt, ti29, un29, Yf, An.cells, t2, t3, t5, hl1, hl2, hq]) | (with_reducible (first | refine Qd fun K hK => ?_ | refine Qi ?_ | refine Qn ?_ | refine QB ?_ | refine Qb ?_ | refine Qw ?_ | refine Qv ?_)) | ((with_reducible refine hK _ ?_); clear hK) | (clear hK; (with_reducible refine hK _ ?_); clear hK) | (refine Qh rfl ?_; simp only [↓reduceIte, Qok]))
          obtain ⟨I, hI⟩ : ∃ I : Nat → AS → Prop, I = fun m' s => ∃ (k : Nat), m' = l.length - k ∧ k ≤ l.length ∧ k ≤ l'.length ∧ Xz l l' = Xz (l.drop k) (l'.drop k) ∧ s.tm 2 = .ptr h.length 0 0 ∧ s.tm 3 = .ptr (h.length + 1) 0 0 ∧ s.tm 8 = .i k ∧ s.h = h ++ [.cells 32 3 [(An.mk f v l).av], .cells 32 3 [(An.mk f v' l').av]] := ⟨_, rfl⟩; refine QK I ?_ (m := l.length) ?_
          · intro m' s hs; rw [hI] at hs; obtain ⟨tm, hp⟩ := s; dsimp only at hs; obtain ⟨k, rfl, hk, hk2, hor, t2, t3, t8, rfl⟩ := hs
            by_cases hlt : k < l.length ∧ k < l'.length
            · obtain ⟨hlt1, hlt2⟩ := hlt
              have hd := Qbm hlt1 hlt2
              have hc := YO l[k] l'[k] (Nat.le_trans (ZY hlt1) hs)
              cases ha : (cmpG l[k] l'[k] != 0) with
              | true =>
                rw [if_pos ha] at hd
                have e : lexI (cmpL v v') (Xz l l') = cmpG l[k] l'[k] := by rw [e0, hor, hd]
                repeat (first | ((first | (with_reducible (first | refine Qa fun K E hK hE => ?_ | refine Qt hc ?_)) | (refine Qy (id := 17) [(0, 0), (1, 0), (2, 0), (3, 0), (4, 0), (5, 0), (6, 0), (7, 0), (8, 0), (9, 0), (10, 1), (11, 0)] mixed (by kernel_rfl) fun K hK => ?_)); simp -implicitDefEqProofs only [Qg, Qf, OpW, aop, AS.ev, ↓reduceIte, Nat.reduceAdd, Nat.reduceLT, Nat.reduceLeDiff, Nat.reduceEqDiff, Qq, QD, QE, Qz, aBin, aLen, goInt, ti30, ei30, un30, X8, ti45, An.cells, t2, t3, t8, hlt1, hlt2, QU, XR G.atom hlt1, XR G.atom hlt2, QR, Q0, ha]) | (with_reducible (first | refine Qd fun K hK => ?_ | refine Qi ?_ | refine Qj ?_ | refine Qn ?_ | refine Qb ?_ | refine Qp ?_ | refine Qs ?_)) | ((with_reducible refine hK _ ?_); clear hK) | (refine Qh rfl ?_; simp only [↓reduceIte]))
                simp only [QC, Ql, Qr, upd, ↓reduceIte, Qom, Qoq]; first | refine Qc (htake _ _) (.keep (.v _)) ⟨by rw [e], rfl⟩ | refine Qc List.take_length (.keep (.v _)) ⟨by rw [e], rfl⟩
              | false =>
                repeat (first | ((first | (with_reducible (first | refine Qa fun K E hK hE => ?_ | refine Qm fun K E hK hE => ?_ | refine Qt hc ?_)) | (refine Qy (id := 17) [(0, 0), (1, 0), (2, 0), (3, 0), (4, 0), (5, 0), (6, 0), (7, 0), (8, 0), (9, 0), (10, 1), (11, 0)] mixed (by kernel_rfl) fun K hK => ?_)); simp -implicitDefEqProofs only [Qg, Qf, OpW, aop, AS.ev, ↓reduceIte, Nat.reduceAdd, Nat.reduceLT, Nat.reduceLeDiff, Nat.reduceEqDiff, Qq, QD, QE, Qz, aBin, aLen, goInt, ti30, ei30, un30, X8, ti45, An.cells, t2, t3, t8, hlt1, hlt2, QU, XR G.atom hlt1, XR G.atom hlt2, QR, Q0, ha]) | (with_reducible (first | refine Qd fun K hK => ?_ | refine Qi ?_ | refine Qn ?_ | refine Qb ?_ | refine Qo ?_)) | ((with_reducible refine hK _ ?_); clear hK) | (refine Qh rfl ?_; simp only [↓reduceIte, Qok]))
                refine Q4.mk (m' := l.length - (k + 1)) (by omega) ?_
                rw [hI]
                refine ⟨k + 1, rfl, hlt1, hlt2, ?_, t2, t3, ?_, rfl⟩
                · rw [hor, hd, ha]; rfl
                · simp only [upd, ↓reduceIte]
                  rw [QT (by omega)]
            · have hz2 := QdR hk hk2 hlt
              rw [← hor] at hz2
              by_cases hl1 : k < l.length
              · have hl2 : ¬ k < l'.length := fun q => hlt ⟨hl1, q⟩
                repeat (first | ((first | (with_reducible (first | refine Qa fun K E hK hE => ?_ | refine Qk cl2 ?_))); simp -implicitDefEqProofs only [Qg, Qf, OpW, QI, aop, AS.ev, ↓reduceIte, Nat.reduceLT, Nat.reduceEqDiff, Qq, QD, QE, aBin, aLen, goInt, ti30, un30, X8, An.cells, t2, t3, t8, QU, hl1, hl2]) | (with_reducible (first | refine Qd fun K hK => ?_ | refine Qj ?_ | refine QB ?_ | refine Qb ?_ | refine Qw ?_ | refine Qv ?_)) | ((with_reducible refine hK _ ?_); clear hK) | (clear hK; (with_reducible refine hK _ ?_); clear hK) | (refine Qh rfl ?_; simp only [↓reduceIte, Qok]))
                simp only [QC, Ql, Qr, upd, ↓reduceIte, Qom, Qoq]; first | refine Qc (htake _ _) (.keep (.v _)) ⟨by rw [e0, hz2], rfl⟩ | refine Qc List.take_length (.keep (.v _)) ⟨by rw [e0, hz2], rfl⟩
              · repeat (first | ((first | (with_reducible (first | refine Qa fun K E hK hE => ?_ | refine Qk cl2 ?_))); simp -implicitDefEqProofs only [Qg, Qf, OpW, QI, aop, undef, AS.ev, ↓reduceIte, Nat.reduceLT, Nat.reduceEqDiff, Qq, QD, QE, aBin, aLen, goInt, ti30, un30, X8, An.cells, t2, t3, t8, QU, hl1]) | (with_reducible (first | refine Qd fun K hK => ?_ | refine Qj ?_ | refine QB ?_ | refine Qb ?_ | refine Qw ?_ | refine Qv ?_)) | ((with_reducible refine hK _ ?_); clear hK) | (clear hK; (with_reducible refine hK _ ?_); clear hK) | (refine Qh rfl ?_; simp only [↓reduceIte, Qok]))
                simp only [QC, Ql, Qr, upd, ↓reduceIte, Qom, Qoq]; first | refine Qc (htake _ _) (.keep (.v _)) ⟨by rw [e0, hz2], rfl⟩ | refine Qc List.take_length (.keep (.v _)) ⟨by rw [e0, hz2], rfl⟩
          · rw [hI]
            exact ⟨0, by omega, Nat.zero_le _, Nat.zero_le _, rfl, t2, t3, rfl, rfl⟩
      · cases hq : (cmpI v.length v'.length != 0) with
        | true =>
          have e : lexI (cmpL v v') (Xz l l') = cmpI v.length v'.length := by rw [hz, lexI, if_pos hq]
          repeat (first | ((first | (with_reducible (first | refine Qa fun K E hK hE => ?_ | refine Qk cl1 ?_))); simp -implicitDefEqProofs only [Qg, Qf, OpW, QI, aop, undef, AS.ev, ↓reduceIte, Nat.reduceLT, Nat.reduceEqDiff, Qq, QD, QE, aBin, aLen, goInt, ti29, un29, Yf, An.cells, t2, t3, t5, hl1, hq]) | (with_reducible (first | refine Qd fun K hK => ?_ | refine Qj ?_ | refine QB ?_ | refine Qb ?_ | refine Qp ?_ | refine Qw ?_ | refine Qv ?_)) | ((with_reducible refine hK _ ?_); clear hK) | (clear hK; (with_reducible refine hK _ ?_); clear hK) | (refine Qh rfl ?_; simp only [↓reduceIte, Qok]))
          simp only [QC, Ql, Qr, upd, ↓reduceIte, Qom, Qoq]; first | refine Qc (htake _ _) (.keep (.v _)) ⟨by rw [e], rfl⟩ | refine Qc List.take_length (.keep (.v _)) ⟨by rw [e], rfl⟩
        | false =>
          have e0 : lexI (cmpL v v') (Xz l l') = Xz l l' := by rw [hz, lexI, hq]; rfl
          repeat (first | ((first | (with_reducible (first | refine Qa fun K E hK hE => ?_ | refine Qk cl1 ?_))); simp -implicitDefEqProofs only [Qg, Qf, OpW, QI, aop, undef, AS.ev, ↓reduceIte, Nat.reduceLT, Nat.reduceEqDiff, Qq, QD, QE, aBin, aLen, goInt, ti29, un29, Yf, An.cells, t2, t3, t5, hl1, hq]) | (with_reducible (first | refine Qd fun K hK => ?_ | refine Qi ?_ | refine Qn ?_ | refine QB ?_ | refine Qb ?_ | refine Qw ?_ | refine Qv ?_)) | ((with_reducible refine hK _ ?_); clear hK) | (clear hK; (with_reducible refine hK _ ?_); clear hK) | (refine Qh rfl ?_; simp only [↓reduceIte, Qok]))
          obtain ⟨I, hI⟩ : ∃ I : Nat → AS → Prop, I = fun m' s => ∃ (k : Nat), m' = l.length - k ∧ k ≤ l.length ∧ k ≤ l'.length ∧ Xz l l' = Xz (l.drop k) (l'.drop k) ∧ s.tm 2 = .ptr h.length 0 0 ∧ s.tm 3 = .ptr (h.length + 1) 0 0 ∧ s.tm 8 = .i k ∧ s.h = h ++ [.cells 32 3 [(An.mk f v l).av], .cells 32 3 [(An.mk f v' l').av]] := ⟨_, rfl⟩; refine QK I ?_ (m := l.length) ?_
          · intro m' s hs; rw [hI] at hs; obtain ⟨tm, hp⟩ := s; dsimp only at hs; obtain ⟨k, rfl, hk, hk2, hor, t2, t3, t8, rfl⟩ := hs
            by_cases hlt : k < l.length ∧ k < l'.length
            · obtain ⟨hlt1, hlt2⟩ := hlt
              have hd := Qbm hlt1 hlt2
              have hc := YO l[k] l'[k] (Nat.le_trans (ZY hlt1) hs)
              cases ha : (cmpG l[k] l'[k] != 0) with
              | true =>
                rw [if_pos ha] at hd
                have e : lexI (cmpL v v') (Xz l l') = cmpG l[k] l'[k] := by rw [e0, hor, hd]
                repeat (first | ((first | (with_reducible (first | refine Qa fun K E hK hE => ?_ | refine Qt hc ?_)) | (refine Qy (id := 17) [(0, 0), (1, 0), (2, 0), (3, 0), (4, 0), (5, 0), (6, 0), (7, 0), (8, 0), (9, 0), (10, 1), (11, 0)] mixed (by kernel_rfl) fun K hK => ?_)); simp -implicitDefEqProofs only [Qg, Qf, OpW, aop, AS.ev, ↓reduceIte, Nat.reduceAdd, Nat.reduceLT, Nat.reduceLeDiff, Nat.reduceEqDiff, Qq, QD, QE, Qz, aBin, aLen, goInt, ti30, ei30, un30, X8, ti45, An.cells, t2, t3, t8, hlt1, hlt2, QU, XR G.atom hlt1, XR G.atom hlt2, QR, Q0, ha]) | (with_reducible (first | refine Qd fun K hK => ?_ | refine Qi ?_ | refine Qj ?_ | refine Qn ?_ | refine Qb ?_ | refine Qp ?_ | refine Qs ?_)) | ((with_reducible refine hK _ ?_); clear hK) | (refine Qh rfl ?_; simp only [↓reduceIte]))
                simp only [QC, Ql, Qr, upd, ↓reduceIte, Qom, Qoq]; first | refine Qc (htake _ _) (.keep (.v _)) ⟨by rw [e], rfl⟩ | refine Qc List.take_length (.keep (.v _)) ⟨by rw [e], rfl⟩
              | false =>
                repeat (first | ((first | (with_reducible (first | refine Qa fun K E hK hE => ?_ | refine Qm fun K E hK hE => ?_ | refine Qt hc ?_)) | (refine Qy (id := 17) [(0, 0), (1, 0), (2, 0), (3, 0), (4, 0), (5, 0), (6, 0), (7, 0), (8, 0), (9, 0), (10, 1), (11, 0)] mixed (by kernel_rfl) fun K hK => ?_)); simp -implicitDefEqProofs only [Qg, Qf, OpW, aop, AS.ev, ↓reduceIte, Nat.reduceAdd, Nat.reduceLT, Nat.reduceLeDiff, Nat.reduceEqDiff, Qq, QD, QE, Qz, aBin, aLen, goInt, ti30, ei30, un30, X8, ti45, An.cells, t2, t3, t8, hlt1, hlt2, QU, XR G.atom hlt1, XR G.atom hlt2, QR, Q0, ha]) | (with_reducible (first | refine Qd fun K hK => ?_ | refine Qi ?_ | refine Qn ?_ | refine Qb ?_ | refine Qo ?_)) | ((with_reducible refine hK _ ?_); clear hK) | (refine Qh rfl ?_; simp only [↓reduceIte, Qok]))
                refine Q4.mk (m' := l.length - (k + 1)) (by omega) ?_
                rw [hI]
                refine ⟨k + 1, rfl, hlt1, hlt2, ?_, t2, t3, ?_, rfl⟩
                · rw [hor, hd, ha]; rfl
                · simp only [upd, ↓reduceIte]
                  rw [QT (by omega)]
            · have hz2 := QdR hk hk2 hlt
              rw [← hor] at hz2
              by_cases hl1 : k < l.length
              · have hl2 : ¬ k < l'.length := fun q => hlt ⟨hl1, q⟩
                repeat (first | ((first | (with_reducible (first | refine Qa fun K E hK hE => ?_ | refine Qk cl2 ?_))); simp -implicitDefEqProofs only [Qg, Qf, OpW, QI, aop, AS.ev, ↓reduceIte, Nat.reduceLT, Nat.reduceEqDiff, Qq, QD, QE, aBin, aLen, goInt, ti30, un30, X8, An.cells, t2, t3, t8, QU, hl1, hl2]) | (with_reducible (first | refine Qd fun K hK => ?_ | refine Qj ?_ | refine QB ?_ | refine Qb ?_ | refine Qw ?_ | refine Qv ?_)) | ((with_reducible refine hK _ ?_); clear hK) | (clear hK; (with_reducible refine hK _ ?_); clear hK) | (refine Qh rfl ?_; simp only [↓reduceIte, Qok]))
                simp only [QC, Ql, Qr, upd, ↓reduceIte, Qom, Qoq]; first | refine Qc (htake _ _) (.keep (.v _)) ⟨by rw [e0, hz2], rfl⟩ | refine Qc List.take_length (.keep (.v _)) ⟨by rw [e0, hz2], rfl⟩
              · repeat (first | ((first | (with_reducible (first | refine Qa fun K E hK hE => ?_ | refine Qk cl2 ?_))); simp -implicitDefEqProofs only [Qg, Qf, OpW, QI, aop, undef, AS.ev, ↓reduceIte, Nat.reduceLT, Nat.reduceEqDiff, Qq, QD, QE, aBin, aLen, goInt, ti30, un30, X8, An.cells, t2, t3, t8, QU, hl1]) | (with_reducible (first | refine Qd fun K hK => ?_ | refine Qj ?_ | refine QB ?_ | refine Qb ?_ | refine Qw ?_ | refine Qv ?_)) | ((with_reducible refine hK _ ?_); clear hK) | (clear hK; (with_reducible refine hK _ ?_); clear hK) | (refine Qh rfl ?_; simp only [↓reduceIte, Qok]))
                simp only [QC, Ql, Qr, upd, ↓reduceIte, Qom, Qoq]; first | refine Qc (htake _ _) (.keep (.v _)) ⟨by rw [e0, hz2], rfl⟩ | refine Qc List.take_length (.keep (.v _)) ⟨by rw [e0, hz2], rfl⟩
          · rw [hI]
            exact ⟨0, by omega, Nat.zero_le _, Nat.zero_le _, rfl, t2, t3, rfl, rfl⟩
  · rw [hI]
    exact ⟨0, by omega, Nat.zero_le _, Nat.zero_le _, rfl, rfl, rfl, rfl, rfl⟩
theorem QaT (a b : An) (hv : ndsL a.vals ≤ 1000000) (hs : gsN a.store ≤ 1000000) : Pure Tryz.prog 22 [a.av, b.av] (.i (YW a b)) := by
  obtain ⟨f, v, l⟩ := a
  obtain ⟨f', v', l'⟩ := b
  cases f <;> cases f'
  · exact Z7 false v v' l l' hv hs
  · intro h
    have hbn : ∀ xo yo, pv Tryz.prog (do eqGuard .neq 4 xo yo (.bool false) (.bool true); binOp .neq 4 (.bool false) (.bool true)) = some (.bool true) := by intro xo yo; rfl
    have e : YW ⟨false, v, l⟩ ⟨true, v', l'⟩ = -1 := rfl
    rw [e]
    refine Qe Tryz.func22 rfl Tryz.call22 Tryz.ntmps22 (congrArg Array.toList Tryz.results22) (by simp) ?_
    repeat (first | (((with_reducible refine Qa fun K E hK hE => ?_)); simp -implicitDefEqProofs only [Qg, Qf, OpW, aop, undef, AS.ev, Qu, AV.QnA, ↓reduceIte, Nat.reduceAdd, Nat.reduceLT, Nat.reduceEqDiff, Qq, QD, QE, aBin, ti4, ZJ, An.cells, hbn]) | (with_reducible (first | refine Qd fun K hK => ?_ | refine Qj ?_ | refine Qp ?_)) | ((with_reducible refine hK _ ?_); clear hK) | (refine Qh rfl ?_; simp only [↓reduceIte]))
    simp only [QC, Ql, Qr, upd, ↓reduceIte, Qom, Qoq]; first | refine Qc (htake _ _) (.keep (.v _)) ⟨rfl, rfl⟩ | refine Qc List.take_length (.keep (.v _)) ⟨rfl, rfl⟩
  · intro h
    have hbn : ∀ xo yo, pv Tryz.prog (do eqGuard .neq 4 xo yo (.bool true) (.bool false); binOp .neq 4 (.bool true) (.bool false)) = some (.bool true) := by intro xo yo; rfl
    have e : YW ⟨true, v, l⟩ ⟨false, v', l'⟩ = 1 := rfl
    rw [e]
    refine Qe Tryz.func22 rfl Tryz.call22 Tryz.ntmps22 (congrArg Array.toList Tryz.results22) (by simp) ?_
    repeat (first | (((with_reducible refine Qa fun K E hK hE => ?_)); simp -implicitDefEqProofs only [Qg, Qf, OpW, aop, undef, AS.ev, Qu, AV.QnA, ↓reduceIte, Nat.reduceAdd, Nat.reduceLT, Nat.reduceEqDiff, Qq, QD, QE, aBin, ti4, ZJ, An.cells, hbn]) | (with_reducible (first | refine Qd fun K hK => ?_ | refine Qj ?_ | refine Qn ?_ | refine Qb ?_ | refine Qp ?_)) | ((with_reducible refine hK _ ?_); clear hK) | (refine Qh rfl ?_; simp only [↓reduceIte, Qok]))
    simp only [QC, Ql, Qr, upd, ↓reduceIte, Qom, Qoq]; first | refine Qc (htake _ _) (.keep (.v _)) ⟨rfl, rfl⟩ | refine Qc List.take_length (.keep (.v _)) ⟨rfl, rfl⟩
  · exact Z7 true v v' l l' hv hs
end Go.Proofs.YtniljpjjnmkoaaaGreatDoor.Ab
set_option maxRecDepth 4000
namespace Go.Proofs.YtniljpjjnmkoaaaGreatDoor.Ab
open Go.Proofs
def Y7 (a : An) : Bool := decide ((a.vals.length : Int) > 30) || (decide ((a.store.length : Int) > 30) || (decide (weigh 64 a.vals 100 < 0) || decide (Y0 a.store 100 < 0)))
structure An.ok (a : An) : Prop where
  v : oks a.vals
  s : ∀ g ∈ a.store, g.ok
  vl : a.vals.length ≤ 9223372036854775807
  sl : a.store.length ≤ 9223372036854775807
theorem YV (a : An) (ho : a.ok) : Pure Tryz.prog 20 [a.av] (.b (Y7 a)) := by
  intro h
  have c1 := QhH a.vals 100 ho.v (by omega) (by omega)
  have c2 := QcD a.store 100 ho.s ho.sl (by omega) (by omega)
  by_cases k1 : (a.vals.length : Int) > 30
  · have e : Y7 a = true := by simp [Y7, k1]
    refine Qe Tryz.func20 rfl Tryz.call20 Tryz.ntmps20 (congrArg Array.toList Tryz.results20) (by simp) ?_
    repeat (first | ((first | (with_reducible (first | refine Qa fun K E hK hE => ?_ | refine Qm fun K E hK hE => ?_ | refine Qk c1 ?_ | refine Qt c1 ?_ | refine Qk c2 ?_ | refine Qt c2 ?_))); simp -implicitDefEqProofs only [Qg, Qf, OpW, aop, undef, AS.ev, Qu, AV.QnA, ↓reduceIte, Nat.reduceAdd, Nat.reduceLT, Nat.reduceEqDiff, Qq, QD, QE, aBin, aLen, goInt, ti29, un29, Yf, An.cells, k1]) | (with_reducible (first | refine Qd fun K hK => ?_ | refine Qi ?_ | refine Qj ?_ | refine QP ?_ | refine QQ ?_ | refine Qn ?_ | refine QB ?_ | refine Qb ?_ | refine Qp ?_ | refine Qw ?_ | refine Qo ?_ | refine Qs ?_ | refine Qv ?_ | refine QL rfl ?_)) | (with_reducible (first | refine hK _ ?_ | (clear hK; refine hK _ ?_) | (clear hK; clear hK; refine hK _ ?_) | (clear hK; clear hK; clear hK; refine hK _ ?_)); clear hK) | (refine Qh rfl ?_; simp only [↓reduceIte, Qok]) | (intro (b : Bool); cases b))
    simp only [QC, Ql, Qr, upd, ↓reduceIte, Qom, Qoq]; first | refine Qc (htake _ _) (.keep (.v _)) ⟨by rw [e], rfl⟩ | refine Qc List.take_length (.keep (.v _)) ⟨by rw [e], rfl⟩
  by_cases k2 : (a.store.length : Int) > 30
  · have e : Y7 a = true := by simp [Y7, k2]
    refine Qe Tryz.func20 rfl Tryz.call20 Tryz.ntmps20 (congrArg Array.toList Tryz.results20) (by simp) ?_
    repeat (first | ((first | (with_reducible (first | refine Qa fun K E hK hE => ?_ | refine Qm fun K E hK hE => ?_ | refine Qk c1 ?_ | refine Qt c1 ?_ | refine Qk c2 ?_ | refine Qt c2 ?_))); simp -implicitDefEqProofs only [Qg, Qf, OpW, aop, undef, AS.ev, Qu, AV.QnA, ↓reduceIte, Nat.reduceAdd, Nat.reduceLT, Nat.reduceEqDiff, Qq, QD, QE, aBin, aLen, goInt, ti29, un29, ti30, un30, Yf, X8, An.cells, QU, k1, k2]) | (with_reducible (first | refine Qd fun K hK => ?_ | refine Qi ?_ | refine Qj ?_ | refine QP ?_ | refine QQ ?_ | refine Qn ?_ | refine QB ?_ | refine Qb ?_ | refine Qp ?_ | refine Qw ?_ | refine Qo ?_ | refine Qs ?_ | refine Qv ?_ | refine QL rfl ?_)) | (with_reducible (first | refine hK _ ?_ | (clear hK; refine hK _ ?_) | (clear hK; clear hK; refine hK _ ?_) | (clear hK; clear hK; clear hK; refine hK _ ?_)); clear hK) | (refine Qh rfl ?_; simp only [↓reduceIte, Qok]) | (intro (b : Bool); cases b))
    simp only [QC, Ql, Qr, upd, ↓reduceIte, Qom, Qoq]; first | refine Qc (htake _ _) (.keep (.v _)) ⟨by rw [e], rfl⟩ | refine Qc List.take_length (.keep (.v _)) ⟨by rw [e], rfl⟩
  by_cases k3 : weigh 64 a.vals 100 < 0
  · have e : Y7 a = true := by simp [Y7, k3]
    rw [decide_eq_true k3] at c1
    refine Qe Tryz.func20 rfl Tryz.call20 Tryz.ntmps20 (congrArg Array.toList Tryz.results20) (by simp) ?_
    repeat (first | ((first | (with_reducible (first | refine Qa fun K E hK hE => ?_ | refine Qm fun K E hK hE => ?_ | refine Qk c1 ?_ | refine Qt c1 ?_ | refine Qk c2 ?_ | refine Qt c2 ?_))); simp -implicitDefEqProofs only [Qg, Qf, OpW, QI, aop, undef, AS.ev, Qu, AV.QnA, ↓reduceIte, Nat.reduceAdd, Nat.reduceLT, Nat.reduceEqDiff, Qq, QD, QE, aBin, aLen, goInt, ti29, un29, ti30, un30, Yf, X8, An.cells, QU, k1, k2]) | (with_reducible (first | refine Qd fun K hK => ?_ | refine Qi ?_ | refine Qj ?_ | refine QP ?_ | refine QQ ?_ | refine Qn ?_ | refine QB ?_ | refine Qb ?_ | refine Qp ?_ | refine Qw ?_ | refine Qo ?_ | refine Qs ?_ | refine Qv ?_ | refine QL rfl ?_)) | (with_reducible (first | refine hK _ ?_ | (clear hK; refine hK _ ?_) | (clear hK; clear hK; refine hK _ ?_) | (clear hK; clear hK; clear hK; refine hK _ ?_)); clear hK) | (refine Qh rfl ?_; simp only [↓reduceIte, Qok]) | (intro (b : Bool); cases b))
    simp only [QC, Ql, Qr, upd, ↓reduceIte, Qom, Qoq]; first | refine Qc (htake _ _) (.keep (.v _)) ⟨by rw [e], rfl⟩ | refine Qc List.take_length (.keep (.v _)) ⟨by rw [e], rfl⟩
  · have e : Y7 a = decide (Y0 a.store 100 < 0) := by rw [Y7, decide_eq_false k1, decide_eq_false k2, decide_eq_false k3]; rfl
    rw [decide_eq_false k3] at c1
    refine Qe Tryz.func20 rfl Tryz.call20 Tryz.ntmps20 (congrArg Array.toList Tryz.results20) (by simp) ?_
    repeat (first | ((first | (with_reducible (first | refine Qa fun K E hK hE => ?_ | refine Qm fun K E hK hE => ?_ | refine Qk c1 ?_ | refine Qt c1 ?_ | refine Qk c2 ?_ | refine Qt c2 ?_))); simp -implicitDefEqProofs only [Qg, Qf, OpW, QI, aop, undef, AS.ev, Qu, AV.QnA, ↓reduceIte, Nat.reduceAdd, Nat.reduceLT, Nat.reduceEqDiff, Qq, QD, QE, aBin, aLen, goInt, ti29, un29, ti30, un30, Yf, X8, An.cells, QU, k1, k2]) | (with_reducible (first | refine Qd fun K hK => ?_ | refine Qi ?_ | refine Qj ?_ | refine QP ?_ | refine QQ ?_ | refine Qn ?_ | refine QB ?_ | refine Qb ?_ | refine Qp ?_ | refine Qw ?_ | refine Qo ?_ | refine Qs ?_ | refine Qv ?_ | refine QL rfl ?_)) | (with_reducible (first | refine hK _ ?_ | (clear hK; refine hK _ ?_) | (clear hK; clear hK; refine hK _ ?_) | (clear hK; clear hK; clear hK; refine hK _ ?_)); clear hK) | (refine Qh rfl ?_; simp only [↓reduceIte, Qok]) | (intro (b : Bool); cases b))
    simp only [QC, Ql, Qr, upd, ↓reduceIte, Qom, Qoq]; first | refine Qc (htake _ _) (.keep (.v _)) ⟨by rw [e], rfl⟩ | refine Qc List.take_length (.keep (.v _)) ⟨by rw [e], rfl⟩
theorem Qlw : ∀ l : List G, gsN l ≤ l.length + ndsG l
  | [] => Nat.zero_le _
  | g :: l => by
    have := Qlw l
    simp only [gsN, ndsG, Qot]; omega
theorem Qg0 {a : An} (h : Y7 a = false) : a.vals.length ≤ 30 ∧ a.store.length ≤ 30 ∧ ndsL a.vals ≤ 100 ∧ gsN a.store ≤ 130 := by
  simp only [Y7, Bool.or_eq_false_iff, decide_eq_false_iff_not] at h
  obtain ⟨h1, h2, h3, h4⟩ := h
  have h5 := Qj6 h3
  have h6 := Qge a.store 100 (by omega)
  have h7 := Qlw a.store
  omega
def Rng (x : Int) : Prop := -1 ≤ x ∧ x ≤ 1
theorem YJ {x y : Int} (h : Rng x) (k : Rng y) : Rng (lexI x y) := by unfold lexI; split; exact h; exact k
theorem rngI (a b : Int) : Rng (cmpI a b) := by unfold cmpI Rng; split <;> (try split) <;> omega
theorem rngS (a b : ByteArray) : Rng (cmpS a b) := by unfold cmpS Rng; split <;> (try split) <;> omega
theorem rngZ : Rng 0 := by unfold Rng; omega
mutual
theorem Qlm : ∀ a b : T, Rng (cmpT a b)
  | .mk k i n l, .mk k' i' n' l' => by
    rw [Qan]
    refine YJ (rngI _ _) ?_
    have ih := Qcm l l'
    unfold Qkm
    split
    · exact rngI _ _
    · split
      · exact YJ (rngI _ _) (YJ (rngS _ _) ih)
      · exact YJ (rngI _ _) (YJ (rngI _ _) (YJ (rngS _ _) rngZ))
theorem Qcm : ∀ l m : List T, Rng (cmpL l m)
  | [], [] => by simp only [cmpL]; exact rngZ
  | [], _ :: _ => by simp only [cmpL]; unfold Rng; omega
  | _ :: _, [] => by simp only [cmpL]; unfold Rng; omega
  | a :: l, b :: m => by rw [Qat]; exact YJ (Qlm a b) (Qcm l m)
end
theorem Qli (a b : G) : Rng (cmpG a b) := YJ (YJ (rngS _ _) (rngI _ _)) (Qcm _ _)
theorem Qfk : ∀ l m : List G, Rng (Xz l m)
  | [], [] => rngZ
  | [], _ :: _ => by simp only [Xz]; unfold Rng; omega
  | _ :: _, [] => by simp only [Xz]; unfold Rng; omega
  | a :: l, b :: m => by rw [Xz]; exact YJ (Qli a b) (Qfk l m)
def biI (b : Bool) : Int := if b = true then 1 else 0
theorem Zg (a b : An) : YW a b = lexI (cmpI (biI a.failed) (biI b.failed)) (cmpA a.ct b.ct) := by
  obtain ⟨f, v, l⟩ := a
  obtain ⟨f', v', l'⟩ := b
  cases f <;> cases f' <;> rfl
theorem Qj1 (a b : An) : Rng (YW a b) := by rw [Zg]; exact YJ (rngI _ _) (YJ (Qcm _ _) (Qfk _ _))
theorem QdQ (a b : An) : YW b a = -YW a b := by rw [Zg, Zg, YG (biI a.failed), ordA.anti a.ct, Yj]
theorem Qjt (a b d : An) : Tri (YW a b) (YW b d) (YW a d) := by rw [Zg, Zg, Zg]; exact YB (Y3 _ _ _) fun _ _ => ordA.tri _ _ _
theorem Qie (a : An) : YW a a = 0 := by have := QdQ a a; omega
end Go.Proofs.YtniljpjjnmkoaaaGreatDoor.Ab
namespace Go.Proofs.YtniljpjjnmkoaaaGreatDoor.Ab
open Go.Proofs
def G.aok (g : G) : Prop := g.op = 0 ∧ g.ok
theorem Qlv {n : Int} (h : (Lit.int .i64 n).wf = true) : i64 n := by
  simpa [Lit.wf, IntKind.min, IntKind.max, IntKind.signed, IntKind.bits, i64] using h
theorem Qhf : ∀ (l : List T), (∀ t ∈ l, t.ok) → oks l
  | [], _ => trivial
  | t :: l, h => ⟨h t (by simp), Qhf l fun x hx => h x (by simp [hx])⟩
theorem Qly {n : Nat} (h : n ≤ maxLen) : n ≤ 9223372036854775807 := by simp only [maxLen] at h; omega
theorem QhX {c : Cx} {s : Nat} {xs : List AV} {own : Option Nat} {u : Value} (h : Rel c (.sl s xs own) u) : xs.length ≤ 9223372036854775807 := by
  cases h with
  | slnil => exact Nat.zero_le _
  | slzero => exact Nat.zero_le _
  | sl _ _ _ B o cap f hs hcap hmax hc hr ht => simp only [maxLen] at hmax; omega
theorem Qab {X : Type} {f : X → AV} {c : Cx} {s : Nat} {xs : List X} {own : Option Nat} {u : Value} (h : Rel c (.sl s (xs.map f) own) u) : xs.length ≤ 9223372036854775807 := by
  have := QhX h; rwa [List.length_map] at this
theorem Qf7 {H : Type} (enc : TypeId × Value → H) (W : World) : ∀ (fuel : Nat) (cs : List Value) (y : DataW H × List MemPlace), DataW.trod enc Tryz.prog W 0 (fun _ => true) true fuel 41 cs = some y → ∃ p : T, T.ok p ∧ Reads W (T.av p) cs := by
  intro fuel
  induction fuel using Nat.strongRecOn with
  | _ fuel ih =>
  intro cs y h
  obtain ⟨xs, fu, hfu, _, hl, hlen, hf⟩ := DataW.trod_struct Tryz.underlying41 h
  have hC : Tryz.prog.cellsOf 41 = 4 := by kernel_rfl
  rw [hC] at hl
  have hlenN : xs.length = 4 := hlen
  obtain ⟨y0, l1, rfl, k1⟩ := XD hlenN
  obtain ⟨y1, l2, rfl, k2⟩ := XD k1
  obtain ⟨y2, l3, rfl, k3⟩ := XD k2
  obtain ⟨y3, l4, rfl, k4⟩ := XD k3
  obtain rfl := len_nil k4
  obtain ⟨c0, l1, rfl, k1⟩ := XD hl
  obtain ⟨c1, l2, rfl, k2⟩ := XD k1
  obtain ⟨c2, l3, rfl, k3⟩ := XD k2
  obtain ⟨c3, l4, rfl, k4⟩ := XD k3
  obtain rfl := len_nil k4
  have g0 : DataW.trod enc Tryz.prog W 0 (fun _ => true) true fu 3 (([c0, c1, c2, c3].drop 0).take (Tryz.prog.cellsOf 3)) = some y0 := hf 0 _ rfl
  rw [show Tryz.prog.cellsOf 3 = 1 by kernel_rfl] at g0
  have g1 : DataW.trod enc Tryz.prog W 0 (fun _ => true) true fu 3 (([c0, c1, c2, c3].drop 1).take (Tryz.prog.cellsOf 3)) = some y1 := hf 1 _ rfl
  rw [show Tryz.prog.cellsOf 3 = 1 by kernel_rfl] at g1
  have g2 : DataW.trod enc Tryz.prog W 0 (fun _ => true) true fu 9 (([c0, c1, c2, c3].drop 2).take (Tryz.prog.cellsOf 9)) = some y2 := hf 2 _ rfl
  rw [show Tryz.prog.cellsOf 9 = 1 by kernel_rfl] at g2
  have g3 : DataW.trod enc Tryz.prog W 0 (fun _ => true) true fu 29 (([c0, c1, c2, c3].drop 3).take (Tryz.prog.cellsOf 29)) = some y3 := hf 3 _ rfl
  rw [show Tryz.prog.cellsOf 29 = 1 by kernel_rfl] at g3
  clear hf
  simp only [Qox, Qop, Qor, Qoy] at g0 g1 g2 g3
  obtain ⟨f0, e0, _, w0⟩ := DataW.trod_int Tryz.underlying3 g0
  obtain ⟨f1, e1, _, w1⟩ := DataW.trod_int Tryz.underlying3 g1
  obtain ⟨f2, e2, _, w2⟩ := DataW.trod_string Tryz.underlying9 g2
  obtain ⟨f3, u3, q3, e3, hu3, hr3⟩ := Qar (X := T) (val := T.av) (Good := T.ok) (s := 4) Tryz.underlying29 (by kernel_rfl) (by omega) (fun t => by rw [T.QnI]; rfl) (fun m cs y hm hy => ih m (by omega) cs y hy) g3
  have n3 := Qab hr3
  rw [← YR] at hr3
  cases e0
  cases e1
  cases e2
  cases e3
  refine ⟨.mk f0 f1 f2 f3, by simp only [T.ok]; exact ⟨Qlv w0, Qlv w1, Qly w2, Qhf _ q3⟩, rfl, fun j x v hx hv => ?_⟩
  rw [T.QnI] at hx
  simp only [T.kind, T.int, T.name, T.args] at hx
  match j, hx, hv with
  | 0, hx, hv => simp at hx hv; subst hx; subst hv; exact ⟨.v _, rfl⟩
  | 1, hx, hv => simp at hx hv; subst hx; subst hv; exact ⟨.v _, rfl⟩
  | 2, hx, hv => simp at hx hv; subst hx; subst hv; exact ⟨.v _, rfl⟩
  | 3, hx, hv => simp at hx hv; subst hx; subst hv; exact ⟨hr3, hu3⟩
  | j + 4, hx, hv => simp at hx
theorem Qj9 {H : Type} (enc : TypeId × Value → H) (W : World) (fuel : Nat) (cs : List Value) (y : DataW H × List MemPlace) (h : DataW.trod enc Tryz.prog W 0 (fun _ => true) true fuel 45 cs = some y) : ∃ p : G, G.aok p ∧ Reads W (G.atom p) cs := by
  obtain ⟨xs, fu, hfu, _, hl, hlen, hf⟩ := DataW.trod_struct Tryz.underlying45 h
  have hC : Tryz.prog.cellsOf 45 = 2 := by kernel_rfl
  rw [hC] at hl
  have hlenN : xs.length = 2 := hlen
  obtain ⟨y0, l1, rfl, k1⟩ := XD hlenN
  obtain ⟨y1, l2, rfl, k2⟩ := XD k1
  obtain rfl := len_nil k2
  obtain ⟨c0, l1, rfl, k1⟩ := XD hl
  obtain ⟨c1, l2, rfl, k2⟩ := XD k1
  obtain rfl := len_nil k2
  have g0 : DataW.trod enc Tryz.prog W 0 (fun _ => true) true fu 9 (([c0, c1].drop 0).take (Tryz.prog.cellsOf 9)) = some y0 := hf 0 _ rfl
  rw [show Tryz.prog.cellsOf 9 = 1 by kernel_rfl] at g0
  have g1 : DataW.trod enc Tryz.prog W 0 (fun _ => true) true fu 29 (([c0, c1].drop 1).take (Tryz.prog.cellsOf 29)) = some y1 := hf 1 _ rfl
  rw [show Tryz.prog.cellsOf 29 = 1 by kernel_rfl] at g1
  clear hf
  simp only [Qox, Qop, Qor, Qoy] at g0 g1
  obtain ⟨f0, e0, _, w0⟩ := DataW.trod_string Tryz.underlying9 g0
  obtain ⟨f1, u1, q1, e1, hu1, hr1⟩ := Qar (X := T) (val := T.av) (Good := T.ok) (s := 4) Tryz.underlying29 (by kernel_rfl) (by omega) (fun t => by rw [T.QnI]; rfl) (fun m cs y _ hy => Qf7 enc W m cs y hy) g1
  have n1 := Qab hr1
  rw [← YR] at hr1
  cases e0
  cases e1
  refine ⟨⟨0, f0, f1⟩, ⟨rfl, by show i64 0; unfold i64; omega, Qly w0, Qhf _ q1⟩, rfl, fun j x v hx hv => ?_⟩
  rw [QR] at hx
  match j, hx, hv with
  | 0, hx, hv => simp at hx hv; subst hx; subst hv; exact ⟨.v _, rfl⟩
  | 1, hx, hv => simp at hx hv; subst hx; subst hv; exact ⟨hr1, hu1⟩
  | j + 2, hx, hv => simp at hx
theorem ZD {H : Type} (enc : TypeId × Value → H) (W : World) (fuel : Nat) (cs : List Value) (y : DataW H × List MemPlace) (h : DataW.trod enc Tryz.prog W 0 (fun _ => true) true fuel 32 cs = some y) : ∃ p : An, An.ok p ∧ Reads W (An.av p) cs := by
  obtain ⟨xs, fu, hfu, _, hl, hlen, hf⟩ := DataW.trod_struct Tryz.underlying32 h
  have hC : Tryz.prog.cellsOf 32 = 3 := by kernel_rfl
  rw [hC] at hl
  have hlenN : xs.length = 3 := hlen
  obtain ⟨y0, l1, rfl, k1⟩ := XD hlenN
  obtain ⟨y1, l2, rfl, k2⟩ := XD k1
  obtain ⟨y2, l3, rfl, k3⟩ := XD k2
  obtain rfl := len_nil k3
  obtain ⟨c0, l1, rfl, k1⟩ := XD hl
  obtain ⟨c1, l2, rfl, k2⟩ := XD k1
  obtain ⟨c2, l3, rfl, k3⟩ := XD k2
  obtain rfl := len_nil k3
  have g0 : DataW.trod enc Tryz.prog W 0 (fun _ => true) true fu 4 (([c0, c1, c2].drop 0).take (Tryz.prog.cellsOf 4)) = some y0 := hf 0 _ rfl
  rw [show Tryz.prog.cellsOf 4 = 1 by kernel_rfl] at g0
  have g1 : DataW.trod enc Tryz.prog W 0 (fun _ => true) true fu 29 (([c0, c1, c2].drop 1).take (Tryz.prog.cellsOf 29)) = some y1 := hf 1 _ rfl
  rw [show Tryz.prog.cellsOf 29 = 1 by kernel_rfl] at g1
  have g2 : DataW.trod enc Tryz.prog W 0 (fun _ => true) true fu 30 (([c0, c1, c2].drop 2).take (Tryz.prog.cellsOf 30)) = some y2 := hf 2 _ rfl
  rw [show Tryz.prog.cellsOf 30 = 1 by kernel_rfl] at g2
  clear hf
  simp only [Qox, Qop, Qor, Qoy] at g0 g1 g2
  obtain ⟨f0, e0, _⟩ := DataW.trod_bool Tryz.underlying4 g0
  obtain ⟨f1, u1, q1, e1, hu1, hr1⟩ := Qar (X := T) (val := T.av) (Good := T.ok) (s := 4) Tryz.underlying29 (by kernel_rfl) (by omega) (fun t => by rw [T.QnI]; rfl) (fun m cs y _ hy => Qf7 enc W m cs y hy) g1
  have n1 := Qab hr1
  rw [← YR] at hr1
  obtain ⟨f2, u2, q2, e2, hu2, hr2⟩ := Qar (X := G) (val := G.atom) (Good := G.aok) (s := 2) Tryz.underlying30 (by kernel_rfl) (by omega) (fun t => by rw [QR]; rfl) (fun m cs y _ hy => Qj9 enc W m cs y hy) g2
  have n2 := Qab hr2
  cases e0
  cases e1
  cases e2
  refine ⟨⟨f0, f1, f2⟩, ⟨Qhf _ q1, fun g hg => (q2 g hg).2, n1, n2⟩, rfl, fun j x v hx hv => ?_⟩
  rw [An.cells] at hx
  match j, hx, hv with
  | 0, hx, hv => simp at hx hv; subst hx; subst hv; exact ⟨.v _, rfl⟩
  | 1, hx, hv => simp at hx hv; subst hx; subst hv; exact ⟨hr1, hu1⟩
  | 2, hx, hv => simp at hx hv; subst hx; subst hv; exact ⟨hr2, hu2⟩
  | j + 3, hx, hv => simp at hx
end Go.Proofs.YtniljpjjnmkoaaaGreatDoor.Ab
set_option maxRecDepth 4000
namespace Go.Proofs.YtniljpjjnmkoaaaGreatDoor.Ab
open Go.Proofs
theorem Qh3 (a b d : An) (ha : a.ok) (hb : b.ok) (hd : d.ok) (hl : (Y7 a || (Y7 b || Y7 d)) = true) (h : AH) (hG : Xm h) :
    Q9 Tryz.prog 5 [a.av, b.av, d.av] h fun o h' => o = .ret (.b true) ∧ h' = h := by
  have c1 := YV a ha
  have c2 := YV b hb
  have c3 := YV d hd
  have ce := fun L => XQ (h ++ L) (hG.onto L)
  cases k1 : Y7 a with
  | true =>
    rw [k1] at c1
    refine Qe Tryz.func5 rfl Tryz.call5 Tryz.ntmps5 (congrArg Array.toList Tryz.results5) (by simp) ?_
    repeat (first | ((first | (with_reducible (first | refine Qa fun K E hK hE => ?_ | refine Qk c1 ?_ | refine FunW.ret (FunW.call (ce _)) ?_))); simp -implicitDefEqProofs only [Qg, Qf, OpW, QI, aop, undef, AS.ev, Qu, AV.QnA, ↓reduceIte, Nat.reduceAdd, Nat.reduceLT, Nat.reduceEqDiff, QD, QE, ti32, An.cells, An.isAgg]) | (with_reducible (first | refine Qd fun K hK => ?_ | refine Qj ?_ | refine Qp ?_)) | ((with_reducible refine hK _ ?_); clear hK) | (refine Qh rfl ?_; simp only [↓reduceIte]))
    simp only [QC, Ql, Qr, upd, ↓reduceIte, Qom, Qoq]; first | refine Qc (htake _ _) (.keep (.v _)) ⟨rfl, rfl⟩ | refine Qc List.take_length (.keep (.v _)) ⟨rfl, rfl⟩
  | false =>
    rw [k1] at c1
    cases k2 : Y7 b with
    | true =>
      rw [k2] at c2
      refine Qe Tryz.func5 rfl Tryz.call5 Tryz.ntmps5 (congrArg Array.toList Tryz.results5) (by simp) ?_
      repeat (first | ((first | (with_reducible (first | refine Qa fun K E hK hE => ?_ | refine Qk c1 ?_ | refine Qk c2 ?_ | refine FunW.ret (FunW.call (ce _)) ?_))); simp -implicitDefEqProofs only [Qg, Qf, OpW, QI, aop, undef, AS.ev, Qu, AV.QnA, ↓reduceIte, Nat.reduceAdd, Nat.reduceLT, Nat.reduceEqDiff, QD, QE, ti32, An.cells, An.isAgg]) | (with_reducible (first | refine Qd fun K hK => ?_ | refine Qj ?_ | refine Qp ?_)) | ((with_reducible refine hK _ ?_); clear hK) | (refine Qh rfl ?_; simp only [↓reduceIte]))
      simp only [QC, Ql, Qr, upd, ↓reduceIte, Qom, Qoq]; first | refine Qc (htake _ _) (.keep (.v _)) ⟨rfl, rfl⟩ | refine Qc List.take_length (.keep (.v _)) ⟨rfl, rfl⟩
    | false =>
      rw [k2] at c2
      have k3 : Y7 d = true := by rw [k1, k2] at hl; exact hl
      rw [k3] at c3
      refine Qe Tryz.func5 rfl Tryz.call5 Tryz.ntmps5 (congrArg Array.toList Tryz.results5) (by simp) ?_
      repeat (first | ((first | (with_reducible (first | refine Qa fun K E hK hE => ?_ | refine Qk c1 ?_ | refine Qk c2 ?_ | refine Qk c3 ?_ | refine FunW.ret (FunW.call (ce _)) ?_))); simp -implicitDefEqProofs only [Qg, Qf, OpW, QI, aop, undef, AS.ev, Qu, AV.QnA, ↓reduceIte, Nat.reduceAdd, Nat.reduceLT, Nat.reduceEqDiff, QD, QE, ti32, An.cells, An.isAgg]) | (with_reducible (first | refine Qd fun K hK => ?_ | refine Qj ?_ | refine Qp ?_)) | ((with_reducible refine hK _ ?_); clear hK) | (refine Qh rfl ?_; simp only [↓reduceIte]))
      simp only [QC, Ql, Qr, upd, ↓reduceIte, Qom, Qoq]; first | refine Qc (htake _ _) (.keep (.v _)) ⟨rfl, rfl⟩ | refine Qc List.take_length (.keep (.v _)) ⟨rfl, rfl⟩
theorem QmO (a b d : An) (x y z : Int) (c1 : Pure Tryz.prog 20 [a.av] (.b false)) (c2 : Pure Tryz.prog 20 [b.av] (.b false)) (c3 : Pure Tryz.prog 20 [d.av] (.b false))
    (x1 : Pure Tryz.prog 21 [a.av, b.av] (.i x)) (x2 : Pure Tryz.prog 21 [b.av, d.av] (.i y)) (x3 : Pure Tryz.prog 21 [a.av, d.av] (.i z)) (x4 : Pure Tryz.prog 22 [a.av, b.av] (.i x))
    (x5 : Pure Tryz.prog 21 [b.av, a.av] (.i (-x))) (x6 : Pure Tryz.prog 21 [a.av, a.av] (.i 0)) (hw : IntKind.i64.wrap (0 - x) = -x) (p1 : x > 0) (h : AH) (hG : Xm h) :
    Q9 Tryz.prog 5 [a.av, b.av, d.av] h fun o h' => o = .ret (.b true) ∧ h' = h := by
  have ce := fun L => XQ (h ++ L) (hG.onto L)
  have hbb : ∀ p q xo yo, pv Tryz.prog (do eqGuard .eql 4 xo yo (.bool p) (.bool q); binOp .eql 4 (.bool p) (.bool q)) = some (.bool (p == q)) := by intro p q xo yo; cases p <;> cases q <;> rfl
  have bt : (true == true) = true := rfl
  have bf : (false == false) = true := rfl
  refine Qe Tryz.func5 rfl Tryz.call5 Tryz.ntmps5 (congrArg Array.toList Tryz.results5) (by simp) ?_
  have z00 : ((0 : Int) != 0) = false := by decide
  repeat (first | ((first | (with_reducible (first | refine Qa fun K E hK hE => ?_ | refine Qk c1 ?_ | refine Qk c2 ?_ | refine Qk c3 ?_))); simp -implicitDefEqProofs only [Qg, Qf, OpW, QI, aop, undef, AS.ev, Qu, AV.QnA, ↓reduceIte, Nat.reduceAdd, Nat.reduceLT, Nat.reduceEqDiff, QD, QE, ti32, An.cells, An.isAgg]) | (with_reducible (first | refine Qd fun K hK => ?_ | refine Qn ?_ | refine Qb ?_)) | ((with_reducible refine hK _ ?_); clear hK) | (refine Qh rfl ?_; simp only [↓reduceIte, Qok]))
  iterate 7 (try (first | ((first | (with_reducible (first | refine Qt x1 ?_ | refine Qt x2 ?_ | refine Qt x3 ?_)) | (refine QH (id := 3) [(0, 0), (1, 0), (2, 1), (3, 0), (4, 0), (5, 1), (6, 0), (7, 0), (8, 1), (9, 0), (10, 0), (11, 0)] mixed (by kernel_rfl) fun K hK => ?_)); simp -implicitDefEqProofs only [Qg, Qf, aop, AS.ev, ↓reduceIte, Nat.reduceAdd, Nat.reduceLT, Nat.reduceLeDiff, Nat.reduceEqDiff, QD, QE, ti32, An.cells, An.isAgg]) | (with_reducible refine Qb ?_) | ((with_reducible refine hK _ ?_); clear hK)))
  refine XI (fun s => s.tm 7 = .i x ∧ s.tm 8 = .i y ∧ s.tm 9 = .i z ∧ ∃ L, s.h = h ++ L) ?_ ?_
  · clear c1 c2 c3 x1 x2 x3 x4 x5 x6
    rintro ⟨tm, hp⟩ ⟨t7, t8, t9, L, rfl⟩
    dsimp only at t7 t8 t9
    (with_reducible refine Qa fun K E hK hE => ?_)
    (try simp only [QoR]); refine QF 7 (fun K1 hK1 => ?_); simp -implicitDefEqProofs only [Qg, Qf, OpW, aop, undef, AS.ev, ↓reduceIte, Nat.reduceLT, Nat.reduceEqDiff, aBin, t7, p1]; refine hK1 _ ?_; clear hK1
    (try simp only [Qop, Qox]); refine QF 7 (fun K1 hK1 => ?_); simp -implicitDefEqProofs only [Qg, Qf, undef, ↓reduceIte, Nat.reduceLT, Nat.reduceEqDiff]; refine hK1 _ ?_; clear hK1
    (try simp only [Qop, Qox]); refine QF 7 (fun K1 hK1 => ?_); simp -implicitDefEqProofs only [Qg, Qf, OpW, aop, undef, AS.ev, ↓reduceIte, Nat.reduceLT, Nat.reduceEqDiff]; refine hK1 _ ?_; clear hK1
    (try simp only [Qop, Qox])
    simp -implicitDefEqProofs only [Qg, Qf, OpW, aop, AS.ev, ↓reduceIte, Nat.reduceLT]
    repeat (first | (((with_reducible refine FunW.ret (FunW.call (ce _)) ?_)); simp -implicitDefEqProofs only [Q1, QY, Qf, OpW, QI, aop, AS.ev, Q2, QaC, ↓reduceIte, Nat.reduceLT, Nat.reduceEqDiff]) | (with_reducible refine Qj ?_) | ((with_reducible refine hK _ ?_); clear hK))
    simp only [QC, Ql, Qr, upd, ↓reduceIte, Qom, Qoq]; first | refine Qc (htake _ _) (.keep (.v _)) ⟨rfl, rfl⟩ | refine Qc List.take_length (.keep (.v _)) ⟨rfl, rfl⟩
  · repeat (first | ((first | (with_reducible (first | refine Qa fun K E hK hE => ?_ | refine Qk x4 ?_ | refine Qk x5 ?_ | refine Qk x6 ?_))); simp -implicitDefEqProofs only [Qg, Qf, OpW, QI, aop, AS.ev, ↓reduceIte, Nat.reduceAdd, Nat.reduceLT, Nat.reduceEqDiff, QD, QE, aBin, ti32, An.cells, An.isAgg, hw]) | (with_reducible (first | refine Qn ?_ | refine Qb ?_)) | ((with_reducible refine hK _ ?_); clear hK) | (refine Qh rfl ?_; simp only [↓reduceIte, Qok]))
    exact ⟨rfl, rfl, rfl, _, rfl⟩
theorem QmZ (a b d : An) (x y z : Int) (c1 : Pure Tryz.prog 20 [a.av] (.b false)) (c2 : Pure Tryz.prog 20 [b.av] (.b false)) (c3 : Pure Tryz.prog 20 [d.av] (.b false))
    (x1 : Pure Tryz.prog 21 [a.av, b.av] (.i x)) (x2 : Pure Tryz.prog 21 [b.av, d.av] (.i y)) (x3 : Pure Tryz.prog 21 [a.av, d.av] (.i z)) (x4 : Pure Tryz.prog 22 [a.av, b.av] (.i x))
    (x5 : Pure Tryz.prog 21 [b.av, a.av] (.i (-x))) (x6 : Pure Tryz.prog 21 [a.av, a.av] (.i 0)) (hw : IntKind.i64.wrap (0 - x) = -x) (p1 : ¬ x > 0) (p2 : y > 0) (h : AH) (hG : Xm h) :
    Q9 Tryz.prog 5 [a.av, b.av, d.av] h fun o h' => o = .ret (.b true) ∧ h' = h := by
  have ce := fun L => XQ (h ++ L) (hG.onto L)
  have hbb : ∀ p q xo yo, pv Tryz.prog (do eqGuard .eql 4 xo yo (.bool p) (.bool q); binOp .eql 4 (.bool p) (.bool q)) = some (.bool (p == q)) := by intro p q xo yo; cases p <;> cases q <;> rfl
  have bt : (true == true) = true := rfl
  have bf : (false == false) = true := rfl
  refine Qe Tryz.func5 rfl Tryz.call5 Tryz.ntmps5 (congrArg Array.toList Tryz.results5) (by simp) ?_
  have z00 : ((0 : Int) != 0) = false := by decide
  repeat (first | ((first | (with_reducible (first | refine Qa fun K E hK hE => ?_ | refine Qk c1 ?_ | refine Qk c2 ?_ | refine Qk c3 ?_))); simp -implicitDefEqProofs only [Qg, Qf, OpW, QI, aop, undef, AS.ev, Qu, AV.QnA, ↓reduceIte, Nat.reduceAdd, Nat.reduceLT, Nat.reduceEqDiff, QD, QE, ti32, An.cells, An.isAgg]) | (with_reducible (first | refine Qd fun K hK => ?_ | refine Qn ?_ | refine Qb ?_)) | ((with_reducible refine hK _ ?_); clear hK) | (refine Qh rfl ?_; simp only [↓reduceIte, Qok]))
  iterate 7 (try (first | ((first | (with_reducible (first | refine Qt x1 ?_ | refine Qt x2 ?_ | refine Qt x3 ?_)) | (refine QH (id := 3) [(0, 0), (1, 0), (2, 1), (3, 0), (4, 0), (5, 1), (6, 0), (7, 0), (8, 1), (9, 0), (10, 0), (11, 0)] mixed (by kernel_rfl) fun K hK => ?_)); simp -implicitDefEqProofs only [Qg, Qf, aop, AS.ev, ↓reduceIte, Nat.reduceAdd, Nat.reduceLT, Nat.reduceLeDiff, Nat.reduceEqDiff, QD, QE, ti32, An.cells, An.isAgg]) | (with_reducible refine Qb ?_) | ((with_reducible refine hK _ ?_); clear hK)))
  refine XI (fun s => s.tm 7 = .i x ∧ s.tm 8 = .i y ∧ s.tm 9 = .i z ∧ ∃ L, s.h = h ++ L) ?_ ?_
  · clear c1 c2 c3 x1 x2 x3 x4 x5 x6
    rintro ⟨tm, hp⟩ ⟨t7, t8, t9, L, rfl⟩
    dsimp only at t7 t8 t9
    (with_reducible refine Qa fun K E hK hE => ?_)
    (try simp only [QoR]); refine QF 7 (fun K1 hK1 => ?_); simp -implicitDefEqProofs only [Qg, Qf, OpW, aop, AS.ev, ↓reduceIte, Nat.reduceLT, Nat.reduceEqDiff, aBin, t7, t8, p1, p2]; refine hK1 _ ?_; clear hK1
    (try simp only [Qop, Qox]); refine QF 7 (fun K1 hK1 => ?_); simp -implicitDefEqProofs only [Qg, Qf, undef, ↓reduceIte, Nat.reduceLT, Nat.reduceEqDiff]; refine hK1 _ ?_; clear hK1
    (try simp only [Qop, Qox]); refine QF 7 (fun K1 hK1 => ?_); simp -implicitDefEqProofs only [Qg, Qf, OpW, aop, undef, AS.ev, ↓reduceIte, Nat.reduceLT, Nat.reduceEqDiff]; refine hK1 _ ?_; clear hK1
    (try simp only [Qop, Qox])
    simp -implicitDefEqProofs only [Qg, Qf, OpW, aop, AS.ev, ↓reduceIte, Nat.reduceLT]
    repeat (first | (((with_reducible refine FunW.ret (FunW.call (ce _)) ?_)); simp -implicitDefEqProofs only [Q1, QY, Qf, OpW, QI, aop, AS.ev, Q2, QaC, ↓reduceIte, Nat.reduceLT, Nat.reduceEqDiff]) | (with_reducible refine Qj ?_) | ((with_reducible refine hK _ ?_); clear hK))
    simp only [QC, Ql, Qr, upd, ↓reduceIte, Qom, Qoq]; first | refine Qc (htake _ _) (.keep (.v _)) ⟨rfl, rfl⟩ | refine Qc List.take_length (.keep (.v _)) ⟨rfl, rfl⟩
  · repeat (first | ((first | (with_reducible (first | refine Qa fun K E hK hE => ?_ | refine Qk x4 ?_ | refine Qk x5 ?_ | refine Qk x6 ?_))); simp -implicitDefEqProofs only [Qg, Qf, OpW, QI, aop, AS.ev, ↓reduceIte, Nat.reduceAdd, Nat.reduceLT, Nat.reduceEqDiff, QD, QE, aBin, ti32, An.cells, An.isAgg, hw]) | (with_reducible (first | refine Qn ?_ | refine Qb ?_)) | ((with_reducible refine hK _ ?_); clear hK) | (refine Qh rfl ?_; simp only [↓reduceIte, Qok]))
    exact ⟨rfl, rfl, rfl, _, rfl⟩
theorem Qmu (a b d : An) (x y z : Int) (c1 : Pure Tryz.prog 20 [a.av] (.b false)) (c2 : Pure Tryz.prog 20 [b.av] (.b false)) (c3 : Pure Tryz.prog 20 [d.av] (.b false))
    (x1 : Pure Tryz.prog 21 [a.av, b.av] (.i x)) (x2 : Pure Tryz.prog 21 [b.av, d.av] (.i y)) (x3 : Pure Tryz.prog 21 [a.av, d.av] (.i z)) (x4 : Pure Tryz.prog 22 [a.av, b.av] (.i x))
    (x5 : Pure Tryz.prog 21 [b.av, a.av] (.i (-x))) (x6 : Pure Tryz.prog 21 [a.av, a.av] (.i 0)) (hw : IntKind.i64.wrap (0 - x) = -x) (e1 : x = 0) (e2 : y = 0) (e3 : z = 0) (h : AH) (hG : Xm h) :
    Q9 Tryz.prog 5 [a.av, b.av, d.av] h fun o h' => o = .ret (.b true) ∧ h' = h := by
  have p1 : ¬ x > 0 := by omega
  have p2 : ¬ y > 0 := by omega
  have p3 : z ≤ 0 := by omega
  have q1 : (x == 0) = true := by simpa using e1
  have q2 : (y == 0) = true := by simpa using e2
  have q3 : (z == 0) = true := by simpa using e3
  have ce := fun L => XQ (h ++ L) (hG.onto L)
  have hbb : ∀ p q xo yo, pv Tryz.prog (do eqGuard .eql 4 xo yo (.bool p) (.bool q); binOp .eql 4 (.bool p) (.bool q)) = some (.bool (p == q)) := by intro p q xo yo; cases p <;> cases q <;> rfl
  have bt : (true == true) = true := rfl
  have bf : (false == false) = true := rfl
  refine Qe Tryz.func5 rfl Tryz.call5 Tryz.ntmps5 (congrArg Array.toList Tryz.results5) (by simp) ?_
  have z00 : ((0 : Int) != 0) = false := by decide
  repeat (first | ((first | (with_reducible (first | refine Qa fun K E hK hE => ?_ | refine Qk c1 ?_ | refine Qk c2 ?_ | refine Qk c3 ?_))); simp -implicitDefEqProofs only [Qg, Qf, OpW, QI, aop, undef, AS.ev, Qu, AV.QnA, ↓reduceIte, Nat.reduceAdd, Nat.reduceLT, Nat.reduceEqDiff, QD, QE, ti32, An.cells, An.isAgg]) | (with_reducible (first | refine Qd fun K hK => ?_ | refine Qn ?_ | refine Qb ?_)) | ((with_reducible refine hK _ ?_); clear hK) | (refine Qh rfl ?_; simp only [↓reduceIte, Qok]))
  iterate 7 (try (first | ((first | (with_reducible (first | refine Qt x1 ?_ | refine Qt x2 ?_ | refine Qt x3 ?_)) | (refine QH (id := 3) [(0, 0), (1, 0), (2, 1), (3, 0), (4, 0), (5, 1), (6, 0), (7, 0), (8, 1), (9, 0), (10, 0), (11, 0)] mixed (by kernel_rfl) fun K hK => ?_)); simp -implicitDefEqProofs only [Qg, Qf, aop, AS.ev, ↓reduceIte, Nat.reduceAdd, Nat.reduceLT, Nat.reduceLeDiff, Nat.reduceEqDiff, QD, QE, ti32, An.cells, An.isAgg]) | (with_reducible refine Qb ?_) | ((with_reducible refine hK _ ?_); clear hK)))
  refine XI (fun s => s.tm 7 = .i x ∧ s.tm 8 = .i y ∧ s.tm 9 = .i z ∧ ∃ L, s.h = h ++ L) ?_ ?_
  · clear c1 c2 c3 x1 x2 x3 x4 x5 x6
    rintro ⟨tm, hp⟩ ⟨t7, t8, t9, L, rfl⟩
    dsimp only at t7 t8 t9
    (with_reducible refine Qa fun K E hK hE => ?_)
    (try simp only [QoR]); refine QF 7 (fun K1 hK1 => ?_); simp -implicitDefEqProofs only [Qg, Qf, OpW, aop, AS.ev, ↓reduceIte, Nat.reduceLT, Nat.reduceEqDiff, aBin, t7, t8, p1, p2]; refine hK1 _ ?_; clear hK1
    (try simp only [Qop, Qox]); refine QF 7 (fun K1 hK1 => ?_); simp -implicitDefEqProofs only [Qg, Qf, OpW, aop, AS.ev, ↓reduceIte, Nat.reduceLT, Nat.reduceEqDiff, aBin, t7, t8, t9, p3, q1]; refine hK1 _ ?_; clear hK1
    (try simp only [Qop, Qox]); refine QF 7 (fun K1 hK1 => ?_); simp -implicitDefEqProofs only [Qg, Qf, OpW, aop, AS.ev, ↓reduceIte, Nat.reduceLT, Nat.reduceEqDiff, aBin, t9, hbb, q2, q3]; refine hK1 _ ?_; clear hK1
    (try simp only [Qop, Qox])
    simp -implicitDefEqProofs only [Qg, Qf, OpW, aop, AS.ev, ↓reduceIte, Nat.reduceLT]
    repeat (first | (((with_reducible refine FunW.ret (FunW.call (ce _)) ?_)); simp -implicitDefEqProofs only [Q1, QY, Qf, OpW, QI, aop, AS.ev, Q2, QaC, ↓reduceIte, Nat.reduceLT, Nat.reduceEqDiff]) | (with_reducible refine Qj ?_) | ((with_reducible refine hK _ ?_); clear hK))
    simp only [QC, Ql, Qr, upd, ↓reduceIte, Qom, Qoq]; first | refine Qc (htake _ _) (.keep (.v _)) ⟨rfl, rfl⟩ | refine Qc List.take_length (.keep (.v _)) ⟨rfl, rfl⟩
  · repeat (first | ((first | (with_reducible (first | refine Qa fun K E hK hE => ?_ | refine Qk x4 ?_ | refine Qk x5 ?_ | refine Qk x6 ?_))); simp -implicitDefEqProofs only [Qg, Qf, OpW, QI, aop, AS.ev, ↓reduceIte, Nat.reduceAdd, Nat.reduceLT, Nat.reduceEqDiff, QD, QE, aBin, ti32, An.cells, An.isAgg, hw]) | (with_reducible (first | refine Qn ?_ | refine Qb ?_)) | ((with_reducible refine hK _ ?_); clear hK) | (refine Qh rfl ?_; simp only [↓reduceIte, Qok]))
    exact ⟨rfl, rfl, rfl, _, rfl⟩
theorem Qmx (a b d : An) (x y z : Int) (c1 : Pure Tryz.prog 20 [a.av] (.b false)) (c2 : Pure Tryz.prog 20 [b.av] (.b false)) (c3 : Pure Tryz.prog 20 [d.av] (.b false))
    (x1 : Pure Tryz.prog 21 [a.av, b.av] (.i x)) (x2 : Pure Tryz.prog 21 [b.av, d.av] (.i y)) (x3 : Pure Tryz.prog 21 [a.av, d.av] (.i z)) (x4 : Pure Tryz.prog 22 [a.av, b.av] (.i x))
    (x5 : Pure Tryz.prog 21 [b.av, a.av] (.i (-x))) (x6 : Pure Tryz.prog 21 [a.av, a.av] (.i 0)) (hw : IntKind.i64.wrap (0 - x) = -x) (e1 : x = 0) (p2 : ¬ y > 0) (p3 : z ≤ 0) (q2 : (y == 0) = false) (q3 : (z == 0) = false) (h : AH) (hG : Xm h) :
    Q9 Tryz.prog 5 [a.av, b.av, d.av] h fun o h' => o = .ret (.b true) ∧ h' = h := by
  have p1 : ¬ x > 0 := by omega
  have q1 : (x == 0) = true := by simpa using e1
  have ce := fun L => XQ (h ++ L) (hG.onto L)
  have hbb : ∀ p q xo yo, pv Tryz.prog (do eqGuard .eql 4 xo yo (.bool p) (.bool q); binOp .eql 4 (.bool p) (.bool q)) = some (.bool (p == q)) := by intro p q xo yo; cases p <;> cases q <;> rfl
  have bt : (true == true) = true := rfl
  have bf : (false == false) = true := rfl
  refine Qe Tryz.func5 rfl Tryz.call5 Tryz.ntmps5 (congrArg Array.toList Tryz.results5) (by simp) ?_
  have z00 : ((0 : Int) != 0) = false := by decide
  repeat (first | ((first | (with_reducible (first | refine Qa fun K E hK hE => ?_ | refine Qk c1 ?_ | refine Qk c2 ?_ | refine Qk c3 ?_))); simp -implicitDefEqProofs only [Qg, Qf, OpW, QI, aop, undef, AS.ev, Qu, AV.QnA, ↓reduceIte, Nat.reduceAdd, Nat.reduceLT, Nat.reduceEqDiff, QD, QE, ti32, An.cells, An.isAgg]) | (with_reducible (first | refine Qd fun K hK => ?_ | refine Qn ?_ | refine Qb ?_)) | ((with_reducible refine hK _ ?_); clear hK) | (refine Qh rfl ?_; simp only [↓reduceIte, Qok]))
  iterate 7 (try (first | ((first | (with_reducible (first | refine Qt x1 ?_ | refine Qt x2 ?_ | refine Qt x3 ?_)) | (refine QH (id := 3) [(0, 0), (1, 0), (2, 1), (3, 0), (4, 0), (5, 1), (6, 0), (7, 0), (8, 1), (9, 0), (10, 0), (11, 0)] mixed (by kernel_rfl) fun K hK => ?_)); simp -implicitDefEqProofs only [Qg, Qf, aop, AS.ev, ↓reduceIte, Nat.reduceAdd, Nat.reduceLT, Nat.reduceLeDiff, Nat.reduceEqDiff, QD, QE, ti32, An.cells, An.isAgg]) | (with_reducible refine Qb ?_) | ((with_reducible refine hK _ ?_); clear hK)))
  refine XI (fun s => s.tm 7 = .i x ∧ s.tm 8 = .i y ∧ s.tm 9 = .i z ∧ ∃ L, s.h = h ++ L) ?_ ?_
  · clear c1 c2 c3 x1 x2 x3 x4 x5 x6
    rintro ⟨tm, hp⟩ ⟨t7, t8, t9, L, rfl⟩
    dsimp only at t7 t8 t9
    (with_reducible refine Qa fun K E hK hE => ?_)
    (try simp only [QoR]); refine QF 7 (fun K1 hK1 => ?_); simp -implicitDefEqProofs only [Qg, Qf, OpW, aop, AS.ev, ↓reduceIte, Nat.reduceLT, Nat.reduceEqDiff, aBin, t7, t8, p1, p2]; refine hK1 _ ?_; clear hK1
    (try simp only [Qop, Qox]); refine QF 7 (fun K1 hK1 => ?_); simp -implicitDefEqProofs only [Qg, Qf, OpW, aop, AS.ev, ↓reduceIte, Nat.reduceLT, Nat.reduceEqDiff, aBin, t7, t8, t9, p3, q1]; refine hK1 _ ?_; clear hK1
    (try simp only [Qop, Qox]); refine QF 7 (fun K1 hK1 => ?_); simp -implicitDefEqProofs only [Qg, Qf, OpW, aop, AS.ev, ↓reduceIte, Nat.reduceLT, Nat.reduceEqDiff, aBin, t9, hbb, q2, q3]; refine hK1 _ ?_; clear hK1
    (try simp only [Qop, Qox])
    simp -implicitDefEqProofs only [Qg, Qf, OpW, aop, AS.ev, ↓reduceIte, Nat.reduceLT]
    repeat (first | (((with_reducible refine FunW.ret (FunW.call (ce _)) ?_)); simp -implicitDefEqProofs only [Q1, QY, Qf, OpW, QI, aop, AS.ev, Q2, QaC, ↓reduceIte, Nat.reduceLT, Nat.reduceEqDiff]) | (with_reducible refine Qj ?_) | ((with_reducible refine hK _ ?_); clear hK))
    simp only [QC, Ql, Qr, upd, ↓reduceIte, Qom, Qoq]; first | refine Qc (htake _ _) (.keep (.v _)) ⟨rfl, rfl⟩ | refine Qc List.take_length (.keep (.v _)) ⟨rfl, rfl⟩
  · repeat (first | ((first | (with_reducible (first | refine Qa fun K E hK hE => ?_ | refine Qk x4 ?_ | refine Qk x5 ?_ | refine Qk x6 ?_))); simp -implicitDefEqProofs only [Qg, Qf, OpW, QI, aop, AS.ev, ↓reduceIte, Nat.reduceAdd, Nat.reduceLT, Nat.reduceEqDiff, QD, QE, aBin, ti32, An.cells, An.isAgg, hw]) | (with_reducible (first | refine Qn ?_ | refine Qb ?_)) | ((with_reducible refine hK _ ?_); clear hK) | (refine Qh rfl ?_; simp only [↓reduceIte, Qok]))
    exact ⟨rfl, rfl, rfl, _, rfl⟩
theorem Qm5 (a b d : An) (x y z : Int) (c1 : Pure Tryz.prog 20 [a.av] (.b false)) (c2 : Pure Tryz.prog 20 [b.av] (.b false)) (c3 : Pure Tryz.prog 20 [d.av] (.b false))
    (x1 : Pure Tryz.prog 21 [a.av, b.av] (.i x)) (x2 : Pure Tryz.prog 21 [b.av, d.av] (.i y)) (x3 : Pure Tryz.prog 21 [a.av, d.av] (.i z)) (x4 : Pure Tryz.prog 22 [a.av, b.av] (.i x))
    (x5 : Pure Tryz.prog 21 [b.av, a.av] (.i (-x))) (x6 : Pure Tryz.prog 21 [a.av, a.av] (.i 0)) (hw : IntKind.i64.wrap (0 - x) = -x) (p1 : ¬ x > 0) (p2 : ¬ y > 0) (p3 : z ≤ 0) (q1 : (x == 0) = false) (q3 : (z == 0) = false) (h : AH) (hG : Xm h) :
    Q9 Tryz.prog 5 [a.av, b.av, d.av] h fun o h' => o = .ret (.b true) ∧ h' = h := by
  have ce := fun L => XQ (h ++ L) (hG.onto L)
  have hbb : ∀ p q xo yo, pv Tryz.prog (do eqGuard .eql 4 xo yo (.bool p) (.bool q); binOp .eql 4 (.bool p) (.bool q)) = some (.bool (p == q)) := by intro p q xo yo; cases p <;> cases q <;> rfl
  have bt : (true == true) = true := rfl
  have bf : (false == false) = true := rfl
  refine Qe Tryz.func5 rfl Tryz.call5 Tryz.ntmps5 (congrArg Array.toList Tryz.results5) (by simp) ?_
  have z00 : ((0 : Int) != 0) = false := by decide
  repeat (first | ((first | (with_reducible (first | refine Qa fun K E hK hE => ?_ | refine Qk c1 ?_ | refine Qk c2 ?_ | refine Qk c3 ?_))); simp -implicitDefEqProofs only [Qg, Qf, OpW, QI, aop, undef, AS.ev, Qu, AV.QnA, ↓reduceIte, Nat.reduceAdd, Nat.reduceLT, Nat.reduceEqDiff, QD, QE, ti32, An.cells, An.isAgg]) | (with_reducible (first | refine Qd fun K hK => ?_ | refine Qn ?_ | refine Qb ?_)) | ((with_reducible refine hK _ ?_); clear hK) | (refine Qh rfl ?_; simp only [↓reduceIte, Qok]))
  iterate 7 (try (first | ((first | (with_reducible (first | refine Qt x1 ?_ | refine Qt x2 ?_ | refine Qt x3 ?_)) | (refine QH (id := 3) [(0, 0), (1, 0), (2, 1), (3, 0), (4, 0), (5, 1), (6, 0), (7, 0), (8, 1), (9, 0), (10, 0), (11, 0)] mixed (by kernel_rfl) fun K hK => ?_)); simp -implicitDefEqProofs only [Qg, Qf, aop, AS.ev, ↓reduceIte, Nat.reduceAdd, Nat.reduceLT, Nat.reduceLeDiff, Nat.reduceEqDiff, QD, QE, ti32, An.cells, An.isAgg]) | (with_reducible refine Qb ?_) | ((with_reducible refine hK _ ?_); clear hK)))
  refine XI (fun s => s.tm 7 = .i x ∧ s.tm 8 = .i y ∧ s.tm 9 = .i z ∧ ∃ L, s.h = h ++ L) ?_ ?_
  · clear c1 c2 c3 x1 x2 x3 x4 x5 x6
    rintro ⟨tm, hp⟩ ⟨t7, t8, t9, L, rfl⟩
    dsimp only at t7 t8 t9
    (with_reducible refine Qa fun K E hK hE => ?_)
    (try simp only [QoR]); refine QF 7 (fun K1 hK1 => ?_); simp -implicitDefEqProofs only [Qg, Qf, OpW, aop, AS.ev, ↓reduceIte, Nat.reduceLT, Nat.reduceEqDiff, aBin, t7, t8, p1, p2]; refine hK1 _ ?_; clear hK1
    (try simp only [Qop, Qox]); refine QF 7 (fun K1 hK1 => ?_); simp -implicitDefEqProofs only [Qg, Qf, OpW, aop, undef, AS.ev, ↓reduceIte, Nat.reduceLT, Nat.reduceEqDiff, aBin, t7, t9, p3, q1]; refine hK1 _ ?_; clear hK1
    (try simp only [Qop, Qox]); refine QF 7 (fun K1 hK1 => ?_); simp -implicitDefEqProofs only [Qg, Qf, OpW, aop, undef, AS.ev, ↓reduceIte, Nat.reduceLT, Nat.reduceEqDiff, aBin, t9, hbb, q3]; refine hK1 _ ?_; clear hK1
    (try simp only [Qop, Qox])
    simp -implicitDefEqProofs only [Qg, Qf, OpW, aop, AS.ev, ↓reduceIte, Nat.reduceLT]
    repeat (first | (((with_reducible refine FunW.ret (FunW.call (ce _)) ?_)); simp -implicitDefEqProofs only [Q1, QY, Qf, OpW, QI, aop, AS.ev, Q2, QaC, ↓reduceIte, Nat.reduceLT, Nat.reduceEqDiff]) | (with_reducible refine Qj ?_) | ((with_reducible refine hK _ ?_); clear hK))
    simp only [QC, Ql, Qr, upd, ↓reduceIte, Qom, Qoq]; first | refine Qc (htake _ _) (.keep (.v _)) ⟨rfl, rfl⟩ | refine Qc List.take_length (.keep (.v _)) ⟨rfl, rfl⟩
  · repeat (first | ((first | (with_reducible (first | refine Qa fun K E hK hE => ?_ | refine Qk x4 ?_ | refine Qk x5 ?_ | refine Qk x6 ?_))); simp -implicitDefEqProofs only [Qg, Qf, OpW, QI, aop, AS.ev, ↓reduceIte, Nat.reduceAdd, Nat.reduceLT, Nat.reduceEqDiff, QD, QE, aBin, ti32, An.cells, An.isAgg, hw]) | (with_reducible (first | refine Qn ?_ | refine Qb ?_)) | ((with_reducible refine hK _ ?_); clear hK) | (refine Qh rfl ?_; simp only [↓reduceIte, Qok]))
    exact ⟨rfl, rfl, rfl, _, rfl⟩
theorem Qny (a b d : An) (ha : a.ok) (hb : b.ok) (hd : d.ok) (h : AH) (hG : Xm h) :
    Q9 Tryz.prog 5 [a.av, b.av, d.av] h fun o h' => o = .ret (.b true) ∧ h' = h := by
  cases hl : (Y7 a || (Y7 b || Y7 d)) with
  | true => exact Qh3 a b d ha hb hd hl h hG
  | false =>
    simp only [Bool.or_eq_false_iff] at hl
    obtain ⟨k1, k2, k3⟩ := hl
    have c1 := YV a ha
    have c2 := YV b hb
    have c3 := YV d hd
    rw [k1] at c1
    rw [k2] at c2
    rw [k3] at c3
    obtain ⟨a1, a2, a3, a4⟩ := Qg0 k1
    obtain ⟨b1, b2, b3, b4⟩ := Qg0 k2
    have x1 := Xs a b (by omega) (by omega)
    have x2 := Xs b d (by omega) (by omega)
    have x3 := Xs a d (by omega) (by omega)
    have x4 := QaT a b (by omega) (by omega)
    have x5 := Xs b a (by omega) (by omega)
    have x6 := Xs a a (by omega) (by omega)
    rw [QdQ a b] at x5
    rw [Qie a] at x6
    have hT := Qjt a b d
    obtain ⟨r1, r2⟩ := Qj1 a b
    generalize YW a b = x at *
    generalize YW b d = y at *
    generalize YW a d = z at *
    have hw : IntKind.i64.wrap (0 - x) = -x := by rw [Xj (by omega)]; omega
    by_cases p1 : x > 0
    · exact QmO a b d x y z c1 c2 c3 x1 x2 x3 x4 x5 x6 hw p1 h hG
    by_cases p2 : y > 0
    · exact QmZ a b d x y z c1 c2 c3 x1 x2 x3 x4 x5 x6 hw p1 p2 h hG
    obtain ⟨t1, t2⟩ := hT (by omega) (by omega)
    by_cases q1 : x = 0
    · by_cases q2 : y = 0
      · exact Qmu a b d x y z c1 c2 c3 x1 x2 x3 x4 x5 x6 hw q1 q2 (t2.2 ⟨q1, q2⟩) h hG
      · have q3 : z ≠ 0 := fun q => q2 (t2.1 q).2
        exact Qmx a b d x y z c1 c2 c3 x1 x2 x3 x4 x5 x6 hw q1 p2 t1 (by simpa using q2) (by simpa using q3) h hG
    · have q3 : z ≠ 0 := fun q => q1 (t2.1 q).1
      exact Qm5 a b d x y z c1 c2 c3 x1 x2 x3 x4 x5 x6 hw p1 p2 t1 (by simpa using q1) (by simpa using q3) h hG
end Go.Proofs.YtniljpjjnmkoaaaGreatDoor.Ab
