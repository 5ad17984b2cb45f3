/-
  An abstract program logic, contracts of functions, and laws of terms and rules (part 7).
-/
import Derived.Test.YtniljpjjnmkoaaaGreatDoorAbSix
import Derived.Test.YtniljpjjnmkoaaaGreatDoorAbFive
set_option linter.unusedVariables false
set_option linter.unusedSimpArgs false
set_option maxHeartbeats 4000000
set_option maxRecDepth 4000
namespace Go.Proofs.YtniljpjjnmkoaaaGreatDoor.Ab
open Go.Proofs
theorem Qeo (n : Int) (c : Ct) (L : List Int) (h6 : L.length ≤ 6) : ∃ σ, σ.Perm (nums L.length) ∧ Yo n c L = ansG n c L σ := by
 have hm := Qd7 h6
 cases hP : XL 720 (nums L.length) with
 | nil => rw [hP] at hm; exact absurd ((hm (nums L.length)).2 (.refl _)) (by simp)
 | cons d D =>
  rw [hP] at hm
  have e1 : Yo n c L = Y2 cmpA (ansG n c L d) (D.map (ansG n c L)) := by rw [Yo, hP]
  rcases List.mem_cons.1 (Zt cmpA (D.map (ansG n c L)) (ansG n c L d)) with h | h
  ·exact ⟨d, (hm d).1 (by simp), by rw [e1, h]⟩
  ·obtain ⟨σ, h1, h2⟩ := List.mem_map.1 h
   exact ⟨σ, (hm σ).1 (by simp [h1]), by rw [e1, h2]⟩
theorem Qkb {n : Int} {b : List (Int × T)} {l : List It} (failed : Bool) (H : SmallC b l) : ndsL (ofC n b l failed).1.vals ≤ 100000 ∧ gsN (ofC n b l failed).1.store ≤ 100000 := by
 have z : ∀ f, ndsL (An.mk f [] []).vals ≤ 100000 ∧ gsN (An.mk f [] []).store ≤ 100000 := fun f => ⟨Nat.zero_le _, Nat.zero_le _⟩
 unfold ofC
 split
 ·exact z _
 split
 ·exact z _
 split
 ·exact z _
 split
 ·exact z _
 ·rename_i h1 h2 h3 h4
  obtain ⟨σ, _, e⟩ := Qeo n ⟨valsOf b n.toNat, storeOf b l⟩ (Xi n (valsOf b n.toNat) (storeOf b l)) (by omega)
  have hn : n.toNat ≤ 100 := by
   simp only [Y9, Bool.or_eq_true, decide_eq_true_eq, not_or] at h1
   omega
  have hV := H.vals n.toNat
  have hS := H.store
  rw [e]
  refine ⟨Nat.le_trans (Qap _ _) (by show ndsL (valsOf b n.toNat) ≤ _; omega), ?_⟩
  show gsN (YA cmpG _) ≤ _
  rw [Qif (Yc cmpG _)]
  exact Nat.le_trans (QhC _ _) (by show gsN (storeOf b l) ≤ _; omega)
theorem QeB (n : Int) (b : List (Int × T)) (l : List It) (failed : Bool) (H : SmallC b l) :
  Pure Tryz.prog 11 [.i n, .sl 5 (bavs b) none, .sl 3 (vs It.av l) none, .v (.bool failed)] (.tup [(ofC n b l failed).1.av, .i (ofC n b l failed).2]) := by
 cases hb : Y9 n b l with
 | true => exact Qn2 n b l failed H hb
 | false =>
  cases failed with
  | true => exact QgH n b l H hb
  | false => exact QhL n b l H hb
theorem QfA (f : Int → Int) : ∀ l : List T, (maps f l).length = l.length
 | [] => rfl
 | t :: l => by rw [maps, List.length_cons, List.length_cons, QfA f l]
mutual
theorem T.Qpb : ∀ {t : T}, t.QoZ = true → t.okC
 | .mk k i n l, h => by
  have ih := @Qb5 l
  rw [T.QoZ] at h
  rw [T.okC]
  by_cases h0 : k = 0
  ·rw [if_pos h0] at h
   simp only [Bool.and_eq_true, List.isEmpty_iff] at h
   exact .inl ⟨.inl h0, ZJ h.1.2, h.2⟩
  rw [if_neg h0] at h
  by_cases h1 : k = 1
  ·rw [if_pos h1] at h
   simp only [Bool.and_eq_true, List.isEmpty_iff] at h
   exact .inl ⟨.inr h1, ZJ h.1.2, h.2⟩
  rw [if_neg h1] at h
  by_cases h2 : k = 2
  ·rw [if_pos h2] at h
   split at h
   ·cases h
   ·rename_i hi
    split at h
    ·cases h
    ·exact .inr ⟨h2, by omega, ih h⟩
  ·rw [if_neg h2] at h; cases h
theorem Qb5 : ∀ {l : List T}, X4 l = true → oksC l
 | [], _ => trivial
 | t :: l, h => by
  rw [X4, Bool.and_eq_true] at h
  exact ⟨T.Qpb h.1, Qb5 h.2⟩
end
mutual
theorem T.Qpn (f : Int → Int) : ∀ {t : T}, t.QoZ = true → (∀ v ∈ t.vars, 0 ≤ f v ∧ f v ≤ 1048576) → (t.map f).QoZ = true
 | .mk k i n l, h, hv => by
  have ih := @Qb3 f l
  rw [T.QoZ] at h
  rw [T.map]
  rw [T.vars] at hv
  by_cases h0 : k = 0
  ·rw [if_pos h0] at h
   rw [if_neg (by omega), if_neg (by omega), T.QoZ, if_pos h0]; exact h
  rw [if_neg h0] at h
  by_cases h1 : k = 1
  ·rw [if_pos h1] at h hv
   rw [if_pos h1, T.QoZ, if_neg h0, if_pos h1]
   have := hv i (by simp)
   simp only [Bool.and_eq_true] at h ⊢
   exact ⟨⟨by simpa using this, h.1.2⟩, h.2⟩
  rw [if_neg h1] at h hv
  by_cases h2 : k = 2
  ·rw [if_pos h2] at h hv
   rw [if_neg h1, if_pos h2, T.QoZ, if_neg h0, if_neg h1, if_pos h2]
   have hl : (maps f l).length = l.length := QfA f l
   rw [hl]
   split at h
   ·cases h
   ·rename_i hi
    rw [if_neg hi]
    split at h
    ·cases h
    ·rename_i hn
     rw [if_neg hn]
     exact ih h hv
  ·rw [if_neg h2] at h; cases h
theorem Qb3 (f : Int → Int) : ∀ {l : List T}, X4 l = true → (∀ v ∈ varss l, 0 ≤ f v ∧ f v ≤ 1048576) → X4 (maps f l) = true
 | [], _, _ => rfl
 | t :: l, h, hv => by
  rw [X4, Bool.and_eq_true] at h
  rw [varss] at hv
  rw [maps, X4, T.Qpn f h.1 fun v hm => hv v (List.mem_append_left _ hm), Qb3 f h.2 fun v hm => hv v (List.mem_append_right _ hm)]; rfl
end
mutual
theorem T.size_map (f : Int → Int) : ∀ t : T, (t.map f).size = t.size ∧ (t.map f).dep = t.dep
 | .mk k i n l => by
  have ih := QaK f l
  rw [T.map]
  by_cases h1 : k = 1
  ·rw [if_pos h1]; simp only [T.size, T.dep, if_neg (show ¬ k = 2 by omega)]; exact ⟨trivial, trivial⟩
  rw [if_neg h1]
  by_cases h2 : k = 2
  ·rw [if_pos h2]; simp only [T.size, T.dep, if_pos h2]; rw [ih.1, ih.2]; exact ⟨rfl, rfl⟩
  ·rw [if_neg h2]; exact ⟨rfl, rfl⟩
theorem QaK (f : Int → Int) : ∀ l : List T, sizes (maps f l) = sizes l ∧ deps (maps f l) = deps l
 | [] => ⟨rfl, rfl⟩
 | t :: l => by
  have h1 := T.size_map f t
  have h2 := QaK f l
  simp only [maps, sizes, deps, h1.1, h1.2, h2.1, h2.2]; exact ⟨trivial, trivial⟩
end
theorem Qee {t : T} (h : t.runOk = true) : t.QoZ = true := by
 rw [T.runOk, (T.Qo5 t 200 20).1, Bool.and_eq_true] at h; exact h.1
theorem QkS {f : Int → Int} {t : T} (h : t.runOk = true) (hv : ∀ v ∈ t.vars, 0 ≤ f v ∧ f v ≤ 1048576) : (t.map f).runOk = true := by
 rw [T.runOk, (T.Qo5 _ 200 20).1, Bool.and_eq_true] at h ⊢
 rw [(T.size_map f t).1, (T.size_map f t).2]
 exact ⟨T.Qpn f h.1 hv, h.2⟩
theorem QaR {g : G} (h : rightAtomB g = true) : X4 g.args = true := by
 rw [rightAtomB, Bool.and_eq_true, Bool.and_eq_true, (Qad g.args 200 20 (by omega) (by omega)).1, Bool.and_eq_true] at h
 exact h.2.2.1
theorem Qfi {f : Int → Int} {g : G} (h : rightAtomB g = true) (hv : ∀ v ∈ varss g.args, 0 ≤ f v ∧ f v ≤ 1048576) : rightAtomB (g.map f) = true := by
 rw [rightAtomB, Bool.and_eq_true, Bool.and_eq_true, (Qad _ 200 20 (by omega) (by omega)).1, Bool.and_eq_true, decide_eq_true_eq, decide_eq_true_eq] at h ⊢
 refine ⟨h.1, ?_, Qb3 f h.2.2.1 hv, ?_⟩
 ·show (maps f g.args).length ≤ 6
  rw [QfA]; exact h.2.1
 ·show ((sizes (maps f g.args) : Nat) : Int) ≤ 200 ∧ ((deps (maps f g.args) : Nat) : Int) ≤ 20
  rw [(QaK f _).1, (QaK f _).2]; exact h.2.2.2
theorem Qfa {g : G} (h : rightAtomB g = true) : ndsL g.args ≤ 200 := by
 have hf := QaR h
 rw [rightAtomB, Bool.and_eq_true, Bool.and_eq_true, (Qad g.args 200 20 (by omega) (by omega)).1, Bool.and_eq_true, decide_eq_true_eq, decide_eq_true_eq] at h
 have := Qc8 g.args hf
 omega
theorem Qgw {t : T} {v : Int} : v ∈ XT t ↔ v ∈ t.vars := by rw [Qds, QeU]; simp
theorem QhE {b : List (Int × T)} (h : rightS b = true) {x : Int × T} (hx : x ∈ b) {v : Int} (hv : v ∈ x.2.vars) : XB b v = none := by
 rw [rightS, Bool.and_eq_true, Zh, List.all_eq_true] at h
 have h1 := h.2 x hx
 rw [List.all_eq_true] at h1
 have h2 := h1 v (Qgw.2 hv)
 cases hb : XB b v with
 | none => rfl
 | some t =>
  have := QbP b v
  rw [hb] at this
  rw [← this] at h2; cases h2
theorem QbC {b : List (Int × T)} {v : Int} {t : T} (h : XB b v = some t) : (v, t) ∈ b := by
 induction b with
 | nil => cases h
 | cons x b ih =>
  rw [XB] at h
  by_cases e : x.1 = v
  ·rw [if_pos e] at h; cases h; subst e; exact List.mem_cons_self ..
  ·rw [if_neg e] at h; exact List.mem_cons_of_mem _ (ih h)
mutual
theorem T.Qo8 {b : List (Int × T)} (h : rightS b = true) : ∀ (t : T), ∀ v ∈ (t.subst b).vars, XB b v = none
 | .mk k i n l, v, hv => by
  have ih := Qa4 h l v
  rw [T.subst] at hv
  by_cases h1 : k = 1
  ·rw [if_pos h1] at hv
   cases hb : XB b i with
   | none =>
    rw [hb] at hv
    simp only [T.vars, if_pos h1, List.mem_singleton] at hv
    rw [hv]; exact hb
   | some t =>
    rw [hb] at hv
    exact QhE h (QbC hb) hv
  rw [if_neg h1] at hv
  by_cases h2 : k = 2
  ·rw [if_pos h2] at hv
   simp only [T.vars, if_neg h1, if_pos h2] at hv
   exact ih hv
  ·rw [if_neg h2] at hv
   simp only [T.vars, if_neg h1, if_neg h2, List.not_mem_nil] at hv
theorem Qa4 {b : List (Int × T)} (h : rightS b = true) : ∀ (l : List T), ∀ v ∈ varss (Xd b l), XB b v = none
 | [], v, hv => by cases hv
 | t :: l, v, hv => by
  rw [Xd, varss] at hv
  rcases List.mem_append.1 hv with hv | hv
  ·exact T.Qo8 h t v hv
  ·exact Qa4 h l v hv
end
mutual
theorem T.Qpz {b : List (Int × T)} : ∀ (t : T), (∀ v ∈ t.vars, XB b v = none) → t.subst b = t
 | .mk k i n l, hv => by
  have ih := @Qdt b l
  rw [T.subst]
  rw [T.vars] at hv
  by_cases h1 : k = 1
  ·rw [if_pos h1] at hv ⊢
   rw [hv i (by simp)]
  rw [if_neg h1] at hv ⊢
  by_cases h2 : k = 2
  ·rw [if_pos h2] at hv ⊢
   rw [ih hv]
  ·rw [if_neg h2]
theorem Qdt {b : List (Int × T)} : ∀ (l : List T), (∀ v ∈ varss l, XB b v = none) → Xd b l = l
 | [], _ => rfl
 | t :: l, hv => by
  rw [varss] at hv
  rw [Xd, T.Qpz t fun v hm => hv v (List.mem_append_left _ hm), Qdt l fun v hm => hv v (List.mem_append_right _ hm)]
end
theorem Qkq : ∀ {b : List (Int × T)} {p : Option Int}, ascF p b = true → ∀ x ∈ b, x.2.runOk = true
 | y :: b, p, h, x, hx => by
  simp only [ascF, Bool.and_eq_true] at h
  rcases List.mem_cons.1 hx with rfl | hx
  ·exact h.2.2.2.1
  ·exact Qkq h.2.2.2.2 x hx
theorem QhG {b : List (Int × T)} (h : rightS b = true) {v : Int} {t : T} (hb : XB b v = some t) : t.runOk = true := by
 rw [rightS, Bool.and_eq_true] at h
 exact Qkq h.1 _ (QbC hb)
theorem Qmp {v : Int} (h : 0 ≤ v ∧ v ≤ 1048576) : (vT v).runOk = true := by
 rw [T.runOk, (T.Qo5 _ 200 20).1, vT, T.QoZ, if_neg (by decide), if_pos rfl]
 simp [h, Y8, T.size, T.dep]
def conB : Nat → List T → List (Int × T)
 | _, [] => []
 | k, t :: l => (if cmpT t (vT k) = 0 then [] else [((k : Int), t)]) ++ conB (k + 1) l
theorem Qgk (t : T) : ∀ (l : List T) (k : Nat), conB k (l ++ [t]) = conB k l ++ (if cmpT t (vT ((k + l.length : Nat) : Int)) = 0 then [] else [(((k + l.length : Nat) : Int), t)])
 | [], k => by simp [conB]
 | x :: l, k => by
  rw [List.cons_append, conB, conB, Qgk t l (k + 1), List.append_assoc, List.length_cons, show k + 1 + l.length = k + (l.length + 1) by omega]
theorem Qa9 : ∀ (l : List T) (k : Nat), (conB k l).length ≤ l.length
 | [], _ => Nat.zero_le _
 | t :: l, k => by
  have := Qa9 l (k + 1)
  rw [conB, List.length_append, List.length_cons]
  split
  ·simp only [Qp0]; omega
  ·simp only [QpZ, Qp0]; omega
theorem QcG : ∀ {l : List T} {k : Nat} {x : Int × T}, x ∈ conB k l → ∃ j, ∃ h : j < l.length, x = (((k + j : Nat) : Int), l[j])
 | t :: l, k, x, h => by
  rw [conB] at h
  rcases List.mem_append.1 h with h | h
  ·split at h
   ·cases h
   ·rw [List.mem_singleton] at h
    exact ⟨0, by simp, h⟩
  ·obtain ⟨j, hj, e⟩ := QcG h
   exact ⟨j + 1, by simp only [QpZ]; omega, by rw [e, show k + 1 + j = k + (j + 1) by omega]; rfl⟩
theorem QkH : ∀ {l : List T} {k j : Nat} (hj : j < l.length), cmpT l[j] (vT ((k + j : Nat) : Int)) ≠ 0 → XB (conB k l) ((k + j : Nat) : Int) = some l[j]
 | t :: l, k, 0, hj, hc => by
  have hc' : ¬ cmpT t (vT (k : Int)) = 0 := hc
  rw [conB, if_neg hc']; simp [XB]
 | t :: l, k, j + 1, hj, hc => by
  have e : k + (j + 1) = k + 1 + j := by omega
  have ih := @QkH l (k + 1) j (by simpa using hj) (by rw [← e]; exact hc)
  rw [e, conB]
  split
  ·exact ih
  ·rw [List.cons_append, List.nil_append, XB, if_neg (by simp only; omega)]; exact ih
theorem QfD : ∀ {l : List T} {k : Nat} {v : Int}, (∀ j (hj : j < l.length), v = ((k + j : Nat) : Int) → cmpT l[j] (vT v) = 0) → XB (conB k l) v = none
 | [], _, _, _ => rfl
 | t :: l, k, v, h => by
  have ih := @QfD l (k + 1) v fun j hj e => h (j + 1) (by simp only [QpZ]; omega) (by rw [e, show k + 1 + j = k + (j + 1) by omega])
  rw [conB]
  split
  ·exact ih
  ·rename_i hc
   rw [List.cons_append, List.nil_append, XB, if_neg, ih]
   intro e
   have e : (k : Int) = v := e
   have := h 0 (by simp) (by omega)
   rw [← e] at this
   exact hc this
theorem QeQ : ∀ {l : List T} {k : Nat} {p : Option Int}, (∀ q, p = some q → q < k) → k + l.length ≤ 1000 → (∀ t ∈ l, t.runOk = true) → ascF p (conB k l) = true
 | [], _, _, _, _, _ => rfl
 | t :: l, k, p, hp, hk, hr => by
  rw [List.length_cons] at hk
  have hr' : ∀ t ∈ l, t.runOk = true := fun x hx => hr x (by simp [hx])
  rw [conB]
  split
  ·exact QeQ (fun q e => by have := hp q e; omega) (by omega) hr'
  ·have ih := @QeQ l (k + 1) (some (k : Int)) (fun q e => by cases e; omega) (by omega) hr'
   have h0 := hr t (by simp)
   have h1 : ((k : Int) < 0) = False := by simp only [eq_iff_iff, iff_false]; omega
   have h2 : ((k : Int) > 1048576) = False := by simp only [eq_iff_iff, iff_false]; omega
   cases p with
   | none => simp [ascF, ih, h0, h1, h2]
   | some q =>
    have h3 : (q ≥ (k : Int)) = False := by have := hp q rfl; simp only [eq_iff_iff, iff_false]; omega
    simp [ascF, ih, h0, h1, h2]
    have := hp q rfl
    omega
def conL (atoms : List G) : List It := (List.range atoms.length).map fun m => ⟨3 * atoms.length - ((atoms.length - 1 - m : Nat) : Int), atoms.getD (atoms.length - 1 - m) ⟨0, ⟨#[]⟩, []⟩⟩
theorem Qdq (atoms : List G) : (conL atoms).length = atoms.length := by simp [conL]
theorem Zy (atoms : List G) : (conL atoms).map (·.atom) = atoms.reverse := by
 refine List.ext_getElem (by simp [conL]) fun j h1 h2 => ?_
 simp only [conL, List.map_map, List.getElem_map, List.getElem_range, Function.comp, List.getElem_reverse]
 rw [List.getD_eq_getElem?_getD, List.getElem?_eq_getElem (by simp at h2; omega)]; rfl
theorem Qd9 (l : List G) : varss (argsG l) = Qe3 l := by
 induction l with
 | nil => rfl
 | cons g l ih => rw [show argsG (g :: l) = g.args ++ argsG l from rfl, Zb, ih]; rfl
theorem Qa1 (n : Int) (vals : List T) (store : List G) (v : Int) : v ∈ Xi n vals store ↔ v ∈ (Ct.mk vals store).vars ∧ n ≤ v := by
 rw [Xi, List.mem_filter, QlG, QeU, Zb, Qd9, Ct.vars]
 simp only [List.not_mem_nil, false_or, Bool.not_eq_true', decide_eq_false_iff_not]
 exact and_congr Iff.rfl (by omega)
structure ConOk (N : Nat) (vals : List T) (store : List G) : Prop where
 n : N ≤ 100
 l : vals.length = N
 r : ∀ t ∈ vals, t.runOk = true
 g : ∀ x ∈ store, rightAtomB x = true ∧ x.op = 0
 f : ∀ v ∈ (Ct.mk vals store).vars, ∀ j (hj : j < vals.length), v = (j : Nat) → vals[j] = vT (j : Nat)
 s : store.length ≤ 7
 b : ∀ t ∈ vals, t.nds ≤ 50 ∧ t.ok
 o : ∀ x ∈ store, oks x.args
theorem ConOk.free {N : Nat} {vals : List T} {store : List G} (H : ConOk N vals store) {v : Int} (hv : v ∈ (Ct.mk vals store).vars) : XB (conB 0 vals) v = none :=
 QfD fun j hj e => by
  rw [Nat.zero_add] at e
  rw [H.f v hv j hj e, e, QgJ]
theorem ConOk.right {N : Nat} {vals : List T} {store : List G} (H : ConOk N vals store) : rightS (conB 0 vals) = true := by
 rw [rightS, QeQ (fun q e => by cases e) (by have := H.n; have := H.l; omega) H.r, Bool.true_and, Zh, List.all_eq_true]
 intro x hx
 rw [List.all_eq_true]
 intro v hv
 obtain ⟨j, hj, e⟩ := QcG hx
 rw [e, Qgw] at hv
 have := H.free (v := v) (by
  rw [Ct.vars, QaJ]
  exact List.mem_append_left _ (List.mem_flatMap.2 ⟨_, List.getElem_mem hj, hv⟩))
 have e2 := QbP (conB 0 vals) v
 rw [this] at e2
 rw [← e2]; rfl
theorem ConOk.vals {N : Nat} {vals : List T} {store : List G} (H : ConOk N vals store) : valsOf (conB 0 vals) N = vals := by
 refine List.ext_getElem (by rw [XO, H.l]) fun j h1 h2 => ?_
 simp only [valsOf, nums, List.getElem_map, List.getElem_range]
 show (vT ((j : Nat) : Int)).subst (conB 0 vals) = vals[j]
 rw [vT, T.subst, if_pos rfl]
 by_cases hc : cmpT vals[j] (vT ((j : Nat) : Int)) = 0
 ·have e : vals[j] = vT ((j : Nat) : Int) := Qf0 (T.Qpb (Qee (H.r _ (List.getElem_mem h2)))) (.inl ⟨.inr rfl, rfl, rfl⟩) hc
  rw [QfD fun i hi ei => by
   have : i = j := by omega
   subst this; exact hc]
  exact e.symm
 ·have := QkH (l := vals) (k := 0) h2 (by rw [Nat.zero_add]; exact hc)
  rw [Nat.zero_add] at this
  rw [this]
theorem ConOk.store {N : Nat} {vals : List T} {store : List G} (H : ConOk N vals store) : storeOf (conB 0 vals) (conL store) = store.reverse := by
 have h1 : ∀ x ∈ conL store, x.atom ∈ store := fun x hx => by
  have : x.atom ∈ store.reverse := by rw [← Zy]; exact List.mem_map_of_mem hx
  simpa using this
 have h2 : ∀ x ∈ conL store, subG (conB 0 vals) x.atom = x.atom := fun x hx => by
  have hg := h1 x hx
  rw [subG, Qdt _ fun v hv => H.free (by rw [Ct.vars]; exact List.mem_append_right _ (QcV hg hv)), ← (H.g _ hg).2]
 rw [storeOf, List.map_congr_left h2, Zy]
theorem ConOk.small {N : Nat} {vals : List T} {store : List G} (H : ConOk N vals store) : SmallC (conB 0 vals) (conL store) := by
 have h1 : ∀ x ∈ conL store, x.atom ∈ store := fun x hx => by
  have : x.atom ∈ store.reverse := by rw [← Zy]; exact List.mem_map_of_mem hx
  simpa using this
 have hn := H.n
 have hl := H.l
 refine ⟨by have := Qa9 vals 0; omega, fun x hx => ?_, fun x hx => ?_, by rw [Qdq]; exact H.s, fun x hx => ?_, fun x hx => H.o _ (h1 x hx)⟩
 ·obtain ⟨j, hj, e⟩ := QcG hx
  rw [e]; exact (H.b _ (List.getElem_mem hj)).1
 ·obtain ⟨j, hj, e⟩ := QcG hx
  rw [e]; exact ⟨by unfold i64; simp only; omega, (H.b _ (List.getElem_mem hj)).2⟩
 ·have := Qfa (H.g _ (h1 x hx)).1; omega
theorem ConOk.good {N : Nat} {vals : List T} {store : List G} (H : ConOk N vals store) : Y9 N (conB 0 vals) (conL store) = false := by
 have h1 : ∀ x ∈ conL store, x.atom ∈ store := fun x hx => by
  have : x.atom ∈ store.reverse := by rw [← Zy]; exact List.mem_map_of_mem hx
  simpa using this
 have hn := H.n
 have h2 : (conL store).any ZP = false := by
  rw [List.any_eq_false]; intro x hx
  rw [ZP, (H.g _ (h1 x hx)).1]; decide
 rw [Y9, H.right, h2, decide_eq_false (by omega), decide_eq_false (by omega)]; rfl
mutual
theorem T.Qpu (f : Int → Int) : ∀ t : T, (t.map f).nds = t.nds
 | .mk k i n l => by
  have ih := QgB f l
  rw [T.map]
  split
  ·rw [T.Qo1, T.Qo1]; rfl
  ·split
   ·rw [T.Qo1, T.Qo1]; simp only [T.args, ih]
   ·rfl
theorem QgB (f : Int → Int) : ∀ l : List T, ndsL (maps f l) = ndsL l
 | [] => rfl
 | t :: l => by rw [maps, ndsL, ndsL, T.Qpu f t, QgB f l]
end
mutual
theorem T.QpA {f : Int → Int} : ∀ {t : T}, t.ok → (∀ v ∈ t.vars, i64 (f v)) → (t.map f).ok
 | .mk k i n l, h, hv => by
  have ih := @Qfm f l
  rw [T.ok] at h
  rw [T.vars] at hv
  rw [T.map]
  by_cases h1 : k = 1
  ·rw [if_pos h1] at hv ⊢
   rw [T.ok]; exact ⟨h.1, hv i (by simp), h.2.2⟩
  rw [if_neg h1] at hv ⊢
  by_cases h2 : k = 2
  ·rw [if_pos h2] at hv ⊢
   rw [T.ok]; exact ⟨h.1, h.2.1, h.2.2.1, ih h.2.2.2 hv⟩
  ·rw [if_neg h2, T.ok]; exact h
theorem Qfm {f : Int → Int} : ∀ {l : List T}, oks l → (∀ v ∈ varss l, i64 (f v)) → oks (maps f l)
 | [], _, _ => trivial
 | t :: l, h, hv => by
  rw [oks] at h
  rw [varss] at hv
  exact ⟨T.QpA h.1 fun v hm => hv v (List.mem_append_left _ hm), Qfm h.2 fun v hm => hv v (List.mem_append_right _ hm)⟩
end
theorem QgU {x y : Int} (h : lexI x y = 0) : x = 0 ∧ y = 0 := by
 unfold lexI at h
 by_cases e : x = 0
 ·subst e; exact ⟨rfl, by simpa using h⟩
 ·simp [e] at h
theorem Qeu : ∀ {l m : List G}, (∀ g ∈ l, oksC g.args ∧ g.op = 0) → (∀ g ∈ m, oksC g.args ∧ g.op = 0) → XF l m = 0 → l = m
 | [], [], _, _, _ => rfl
 | [], _ :: _, _, _, h => by simp [XF] at h
 | _ :: _, [], _, _, h => by simp [XF] at h
 | a :: l, b :: m, ha, hb, h => by
  rw [XF] at h
  have h1 := QgU h
  obtain ⟨a1, a2⟩ := ha a (by simp)
  obtain ⟨b1, b2⟩ := hb b (by simp)
  rw [Qhh a1 b1 (by rw [a2, b2]) h1.1, Qeu (fun g hg => ha g (by simp [hg])) (fun g hg => hb g (by simp [hg])) h1.2]
def Ct.okC (c : Ct) : Prop := oksC c.vals ∧ ∀ g ∈ c.store, oksC g.args ∧ g.op = 0
theorem Qli {a b : Ct} (ha : a.okC) (hb : b.okC) (h : cmpA a b = 0) : a = b := by
 rw [cmpA] at h
 have h1 := QgU h
 have e1 := Qbv ha.1 hb.1 h1.1
 have e2 := Qeu ha.2 hb.2 h1.2
 cases a; cases b; simp only at e1 e2; rw [e1, e2]
theorem Ct.Qps {c : Ct} (h : c.okC) (f : Int → Int) : (c.ans f).okC := by
 refine ⟨Qav f h.1, fun g hg => ?_⟩
 have hg' := (Yc cmpG _).mem_iff.1 hg
 obtain ⟨x, hx, rfl⟩ := List.mem_map.1 hg'
 exact ⟨Qav f (h.2 x hx).1, (h.2 x hx).2⟩
theorem QeY {c : Ct} (h : c.okC) (n : Int) (p : List Int) : ansM n c p = c.ans (toF n p) := by
 have e1 : ∀ l, oksC l → rens (toM n p) l = maps (toF n p) l := fun l hl => by
  rw [QcM _ hl]
  congr 1
  exact funext fun v => QiB n p v
 rw [ansM, Ct.ans, e1 _ h.1]
 congr 2
 refine List.map_congr_left fun g hg => ?_
 rw [G.ren, G.map, e1 _ (h.2 g hg).1, (h.2 g hg).2]
theorem Qbb {n : Int} {c : Ct} {L : List Int} (hc : c.okC) (hn : L.Nodup) (h6 : L.length ≤ 6) : ∃ e E, ords L = e :: E ∧ Yo n c L = Qc4 n c e E := by
 have h0 := QeR (n := n) (c := c) hn h6 (E := ords L) fun p => QaM
 cases hE : ords L with
 | nil => exact absurd (QaM.2 (List.Perm.refl L)) (by rw [hE]; simp)
 | cons e E =>
  refine ⟨e, E, rfl, ?_⟩
  rw [hE] at h0
  have e1 : QiD n c (e :: E) = Qc4 n c e E := by
   rw [QiD, Qc4, QeY hc, List.map_congr_left fun p _ => QeY hc n p]
  rw [e1] at h0
  obtain ⟨σ, h1, h2⟩ := Qeo n c L h6
  obtain ⟨p, h3, h4⟩ := Qis hn h1
  obtain ⟨q, h5, h7⟩ := Qi6 n c e E
  have o1 : (Yo n c L).okC := by rw [h2, QdG h3 h4, QeY hc]; exact Ct.Qps hc _
  have o2 : (Qc4 n c e E).okC := by rw [h7]; exact Ct.Qps hc _
  exact Qli o1 o2 h0
structure MainC (N : Nat) (b : List (Int × T)) (l : List It) : Prop where
 s : SmallC b l
 n : N ≤ 100
 r : rightS b = true
 a : ∀ x ∈ l, rightAtomB x.atom = true
 g : ∀ g ∈ storeOf b l, rightAtomB g = true
theorem MainC.QpK {N : Nat} {b : List (Int × T)} {l : List It} (H : MainC N b l) : ∀ t ∈ valsOf b N, t.runOk = true := fun t ht => by
 obtain ⟨v, hv, rfl⟩ := List.mem_map.1 ht
 obtain ⟨j, hj, rfl⟩ := Qaw.1 hv
 have hn := H.n
 rw [vT, T.subst, if_pos rfl]
 cases hb : XB b (j : Nat) with
 | none => exact Qmp (by omega)
 | some x => exact QhG H.r hb
theorem Qej {b : List (Int × T)} {l : List It} : ∀ g ∈ storeOf b l, g.op = 0 := fun g hg => by
 obtain ⟨x, _, rfl⟩ := List.mem_map.1 hg; rfl
theorem Qim : ∀ {l : List T}, (∀ t ∈ l, t.okC) → oksC l
 | [], _ => trivial
 | t :: l, h => ⟨h t (by simp), Qim fun x hx => h x (by simp [hx])⟩
theorem MainC.okC {N : Nat} {b : List (Int × T)} {l : List It} (H : MainC N b l) : (Ct.mk (valsOf b N) (storeOf b l)).okC :=
 ⟨Qim fun t ht => T.Qpb (Qee (H.QpK t ht)), fun g hg => ⟨Qb5 (QaR (H.g g hg)), Qej g hg⟩⟩
theorem MainC.free {N : Nat} {b : List (Int × T)} {l : List It} (H : MainC N b l) {v : Int} (hv : v ∈ (Ct.mk (valsOf b N) (storeOf b l)).vars) : XB b v = none := by
 rw [Ct.vars] at hv
 rcases List.mem_append.1 hv with hv | hv
 ·rw [QaJ] at hv
  obtain ⟨t, ht, hv⟩ := List.mem_flatMap.1 hv
  obtain ⟨w, _, rfl⟩ := List.mem_map.1 ht
  exact T.Qo8 H.r _ v hv
 ·obtain ⟨g, hg, hv⟩ := List.mem_flatMap.1 hv
  obtain ⟨x, _, rfl⟩ := List.mem_map.1 hg
  exact Qa4 H.r _ v hv
theorem MainC.con {N : Nat} {b : List (Int × T)} {l : List It} (H : MainC N b l) {h : Int → Int} {vals : List T} {store : List G} (hv : vals = maps h (valsOf b N)) (hs : store.Perm ((storeOf b l).map (G.map h)))
  (hf : ∀ v ∈ (Ct.mk (valsOf b N) (storeOf b l)).vars, v < N → h v = v) (hb : ∀ v ∈ (Ct.mk (valsOf b N) (storeOf b l)).vars, (N : Int) ≤ v → (N : Int) ≤ h v) (hr : ∀ v ∈ (Ct.mk (valsOf b N) (storeOf b l)).vars, 0 ≤ h v ∧ h v ≤ 1048576) : ConOk N vals store := by
 have hlen : vals.length = N := by rw [hv, QfA, XO]
 have mv : ∀ t ∈ vals, ∃ u ∈ valsOf b N, t = u.map h := fun t ht => by
  have e : ∀ l : List T, maps h l = l.map (T.map h) := fun l => by
   induction l with
   | nil => rfl
   | cons x l ih => rw [maps, ih]; rfl
  rw [hv, e] at ht
  obtain ⟨u, hu, rfl⟩ := List.mem_map.1 ht
  exact ⟨u, hu, rfl⟩
 have uv : ∀ u ∈ valsOf b N, ∀ v ∈ u.vars, v ∈ (Ct.mk (valsOf b N) (storeOf b l)).vars := fun u hu v hm => by
  rw [Ct.vars, QaJ]; exact List.mem_append_left _ (List.mem_flatMap.2 ⟨u, hu, hm⟩)
 have ms : ∀ x ∈ store, ∃ u ∈ storeOf b l, x = u.map h := fun x hx => by
  obtain ⟨u, hu, e⟩ := List.mem_map.1 (hs.mem_iff.1 hx)
  exact ⟨u, hu, e.symm⟩
 have us : ∀ u ∈ storeOf b l, ∀ v ∈ varss u.args, v ∈ (Ct.mk (valsOf b N) (storeOf b l)).vars := fun u hu v hm => by
  rw [Ct.vars]; exact List.mem_append_right _ (QcV hu hm)
 refine ⟨H.n, hlen, fun t ht => ?_, fun x hx => ?_, fun v hm j hj e => ?_, ?_, fun t ht => ?_, fun x hx => ?_⟩
 ·obtain ⟨u, hu, rfl⟩ := mv t ht
  exact QkS (H.QpK u hu) fun v hm => hr v (uv u hu v hm)
 ·obtain ⟨u, hu, rfl⟩ := ms x hx
  exact ⟨Qfi (H.g u hu) fun v hm => hr v (us u hu v hm), Qej u hu⟩
 ·obtain ⟨w, hw, e2⟩ := (Qcj (c := ⟨valsOf b N, storeOf b l⟩) (c' := ⟨vals, store⟩) hv hs v).1 hm
  have hjN : j < N := by omega
  have hwN : w < N := by
   rcases Int.lt_or_le w N with q | q
   ·exact q
   ·have := hb w hw q; omega
  have ew : w = (j : Nat) := by rw [← e, ← e2, hf w hw hwN]
  have hfree := H.free hw
  have e3 : (valsOf b N)[j]'(by rw [XO]; exact hjN) = vT (j : Nat) := by
   simp only [valsOf, nums, List.getElem_map, List.getElem_range]
   show (vT ((j : Nat) : Int)).subst b = _
   rw [vT, T.subst, if_pos rfl, ← ew, hfree]
  have e4 : vals[j] = ((valsOf b N)[j]'(by rw [XO]; exact hjN)).map h := by
   have e : ∀ l : List T, maps h l = l.map (T.map h) := fun l => by
    induction l with
    | nil => rfl
    | cons x l ih => rw [maps, ih]; rfl
   subst hv
   simp only [e, List.getElem_map]
  rw [e4, e3, vT, T.map, if_pos rfl, ← ew, hf w hw hwN]
 ·rw [hs.length_eq, List.length_map, YF]; exact H.s.l1
 ·obtain ⟨u, hu, rfl⟩ := mv t ht
  have h1 : u.nds ≤ 50 ∧ u.ok := by
   obtain ⟨v, hv, rfl⟩ := List.mem_map.1 hu
   obtain ⟨j, hj, rfl⟩ := Qaw.1 hv
   have hn := H.n
   rw [vT, T.subst, if_pos rfl]
   cases hb : XB b (j : Nat) with
   | none => exact ⟨(by omega : 1 ≤ 50), by unfold i64; omega, by unfold i64; omega, by decide, trivial⟩
   | some x => exact ⟨H.s.b2 _ (QbC hb), (H.s.b3 _ (QbC hb)).2⟩
  rw [T.Qpu]
  exact ⟨h1.1, T.QpA h1.2 fun v hm => by have := hr v (uv u hu v hm); unfold i64; omega⟩
 ·obtain ⟨u, hu, rfl⟩ := ms x hx
  exact Qfm (H.s.Qpi u hu) fun v hm => by have := hr v (us u hu v hm); unfold i64; omega
theorem QiF {N : Nat} {b : List (Int × T)} {l : List It} (hb : Y9 N b l = false) (hg : ∀ g ∈ storeOf b l, rightAtomB g = true) (h6 : (Xi N (valsOf b N) (storeOf b l)).length ≤ 6) :
  ofC N b l false = (⟨false, (Yo N ⟨valsOf b N, storeOf b l⟩ (Xi N (valsOf b N) (storeOf b l))).vals, (Yo N ⟨valsOf b N, storeOf b l⟩ (Xi N (valsOf b N) (storeOf b l))).store⟩, 0) := by
 have h1 : ¬ (storeOf b l).any (fun g => !rightAtomB g) = true := by
  rw [List.any_eq_true]; rintro ⟨g, h2, h3⟩; rw [hg g h2] at h3; cases h3
 rw [ofC, if_neg (by rw [hb]; decide), if_neg (by decide), Int.toNat_natCast, if_neg h1, if_neg (by omega)]
theorem ConOk.main {N : Nat} {vals : List T} {store : List G} (H : ConOk N vals store) : MainC N (conB 0 vals) (conL store) := by
 have h1 : ∀ x ∈ conL store, x.atom ∈ store := fun x hx => by
  have : x.atom ∈ store.reverse := by rw [← Zy]; exact List.mem_map_of_mem hx
  simpa using this
 refine ⟨H.small, H.n, H.right, fun x hx => (H.g _ (h1 x hx)).1, fun g hg => ?_⟩
 rw [H.store] at hg
 exact (H.g g (List.mem_reverse.1 hg)).1
theorem ConOk.others {N : Nat} {vals : List T} {store : List G} (H : ConOk N vals store) {c : Ct} {h : Int → Int} {L : List Int} (hv : vals = maps h c.vals) (hs : store.Perm (c.store.map (G.map h)))
  (hi : ∀ v ∈ c.vars, ∀ w ∈ c.vars, h v = h w → v = w) (hf : ∀ v ∈ c.vars, v < N → h v = v) (hb : ∀ v ∈ c.vars, (N : Int) ≤ v → (N : Int) ≤ h v)
  (hn : L.Nodup) (hL : ∀ v, v ∈ L ↔ v ∈ c.vars ∧ (N : Int) ≤ v) : (Xi N (valsOf (conB 0 vals) N) (storeOf (conB 0 vals) (conL store))).length = L.length := by
 rw [H.vals, H.store]
 have := QaQ (n := N) (c := c) (c' := ⟨vals, store.reverse⟩) (h := h) (L := L) (L' := Xi N vals store.reverse) hv ((List.reverse_perm store).trans hs) hi hf hb hn (YU _ _ _) hL fun v => Qa1 _ _ _ v
 have := this.length_eq
 rw [List.length_map] at this
 exact this.symm
theorem QlO (n : Nat) (x : It) : ∀ a ∈ x.av.cells, Below n a := by
 intro a ha
 rw [It.cells] at ha
 simp only [List.mem_cons, List.not_mem_nil, or_false] at ha
 rcases ha with rfl | rfl | rfl
 ·exact .v _
 ·exact .v _
 ·exact X0 _ _
theorem QfR (vals : List T) (atoms : List G) (hv : ∀ t ∈ vals, t.nds ≤ 1000000) (hvl : vals.length ≤ 1000) (hal : atoms.length ≤ 1000) :
  Pure Tryz.prog 12 [.sl 4 (avs vals) none, .sl 2 (vs G.atom atoms) none] (.tup [.sl 5 (bavs (conB 0 vals)) none, .sl 3 (vs It.av (conL atoms)) none]) := by
 intro h
 refine Qh Tryz.func12 rfl Tryz.call12 Tryz.ntmps12 (congrArg Array.toList Tryz.results12) (by simp) ?_
 repeat (first | (((with_reducible refine Qa fun K E hK hE => ?_)); simp -implicitDefEqProofs only [Qe, Qf, OpW, aop, AS.ev, Nat.reduceLT]) | (with_reducible (first | refine Qd fun K hK => ?_ | refine Qi ?_)) | ((with_reducible refine hK _ ?_); clear hK))
 refine XQ 6 52 5 rfl ?_
 refine XQ 7 48 3 rfl ?_
 obtain ⟨I, hI⟩ : ∃ I : Nat → AS → Prop, I = fun m' s => ∃ (k : Nat) (M : AH), m' = vals.length - k ∧ k ≤ vals.length ∧ s.tm 0 = .sl 4 (avs vals) none ∧ s.tm 1 = .sl 2 (vs G.atom atoms) none ∧ s.tm 6 = .sl 5 (bavs (conB 0 (vals.take k))) (some h.length) ∧ s.tm 7 = .sl 3 [] (some (h.length + 1)) ∧ s.tm 8 = .i k ∧
   s.h = h ++ ([.grow 52 5 (conB 0 (vals.take k)).length, .grow 48 3 0] ++ M) := ⟨_, rfl⟩; refine QI I ?_ (m := vals.length) ?_
 ·intro m' s hs; rw [hI] at hs; obtain ⟨tm, hp⟩ := s; dsimp only at hs; obtain ⟨k, M, rfl, hk, t0, t1, t6, t7, t8, rfl⟩ := hs
  by_cases hlt : k < vals.length
  ·have cv : Pure Tryz.prog 16 [.i (k : Int)] (vT k).av := QbV k
   have cs := QgX vals[k] (vT k) (hv _ (List.getElem_mem hlt))
   have hst : conB 0 (vals.take (k + 1)) = conB 0 (vals.take k) ++ (if cmpT vals[k] (vT (k : Int)) = 0 then [] else [((k : Int), vals[k])]) := by
    rw [List.take_succ_eq_append_getElem hlt, Qgk, Nat.zero_add, List.length_take, Nat.min_eq_left (by omega)]
   have hlen : (conB 0 (vals.take k)).length ≤ k := by have := Qa9 (vals.take k) 0; rw [List.length_take] at this; omega
   have hm1 : (conB 0 (vals.take k)).length + 1 ≤ maxLen := by simp only [maxLen]; omega
   have hm2 : ((conB 0 (vals.take k)).length + 1) * 64 ≤ 140737488355328 := by omega
   by_cases hc : cmpT vals[k] (vT (k : Int)) = 0
   ·have hcb : (cmpT vals[k] (vT (k : Int)) == 0) = true := by simpa using hc
    rw [if_pos hc, List.append_nil] at hst
    rw [hcb] at cs
    repeat (first | ((first | (with_reducible (first | refine Qa fun K E hK hE => ?_ | refine Qk fun K E hK hE => ?_ | refine Qz cv ?_ | refine Qz cs ?_)) | (refine Qu (id := 6) [(0, 0), (1, 0), (2, 0), (3, 0), (4, 0), (5, 1), (6, 1), (7, 0)] mixed (by kernel_rfl) fun K hK => ?_)); simp -implicitDefEqProofs only [Qe, Qf, OpW, aop, AS.ev, ↓reduceIte, QA, QB, Qt, aBin, aLen, goInt, ei29, un29, ti41, t0, t8, hlt, Q3 hlt, seval]) | (with_reducible (first | refine Qd fun K hK => ?_ | refine Qi ?_ | refine Qn ?_ | refine Qb ?_ | refine Qo ?_)) | ((with_reducible refine hK _ ?_); clear hK) | (refine Qg rfl ?_; simp only [↓reduceIte, QpQ]))
    refine QV.mk (m' := vals.length - (k + 1)) (by omega) ?_
    rw [hI]
    refine ⟨k + 1, M, rfl, hlt, t0, t1, by rw [hst]; exact t6, t7, ?_, by rw [hst]; rfl⟩
    simp only [upd, ↓reduceIte]
    rw [QP (by omega)]
   ·have hcb : (cmpT vals[k] (vT (k : Int)) == 0) = false := by simpa using hc
    rw [if_neg hc] at hst
    rw [hcb] at cs
    repeat (first | ((first | (with_reducible (first | refine Qa fun K E hK hE => ?_ | refine Qk fun K E hK hE => ?_ | refine Qz cv ?_ | refine Qz cs ?_)) | (refine Qu (id := 6) [(0, 0), (1, 0), (2, 0), (3, 0), (4, 0), (5, 1), (6, 1), (7, 0)] mixed (by kernel_rfl) fun K hK => ?_)); simp -implicitDefEqProofs only [Qe, Qf, OpW, aop, AS.ev, AV.QoY, ↓reduceIte, QA, QB, Qt, aBin, XA, XV, QM, aLen, Xr, XS, goInt, ei23, ai23, ei29, un29, ti41, zi52, sp52, t0, t6, t8, hlt, Q3 hlt, QL, hm1, hm2, seval]) | (with_reducible (first | refine Qd fun K hK => ?_ | refine Qi ?_ | refine Qn ?_ | refine Qb ?_ | refine Qo ?_)) | ((with_reducible refine hK _ ?_); clear hK) | (refine Qg rfl ?_; simp only [↓reduceIte]))
    refine QV.mk (m' := vals.length - (k + 1)) (by omega) ?_
    rw [hI]
    refine ⟨k + 1, M, rfl, hlt, t0, t1, ?_, t7, ?_, ?_⟩
    ·simp only [upd, ↓reduceIte, Nat.reduceEqDiff]
     rw [hst, Qc2]; rfl
    ·simp only [upd, ↓reduceIte]
     rw [QP (by omega)]
    ·rw [hst, List.length_append]; simp
  ·have hkl : k = vals.length := by omega
   subst hkl
   rw [List.take_length] at t6 ⊢
   have w1 : IntKind.i64.wrap ((atoms.length : Int) - 1) = (atoms.length : Int) - 1 := Xp (by omega)
   have hcl : (conL atoms).length = atoms.length := Qdq atoms
   repeat (first | (((with_reducible refine Qa fun K E hK hE => ?_)); simp -implicitDefEqProofs only [Qe, Qf, OpW, aop, AS.ev, ↓reduceIte, aBin, aLen, goInt, un29, un30, t0, t1, t8, hlt, QR, w1, seval]) | (with_reducible (first | refine Qd fun K hK => ?_ | refine Qi ?_ | refine QC ?_ | refine Qb ?_ | refine Qw ?_ | refine Qy ?_)) | ((with_reducible refine hK _ ?_); clear hK) | (clear hK; (with_reducible refine hK _ ?_); clear hK) | (refine Qg rfl ?_; simp only [↓reduceIte, QpQ]))
   obtain ⟨I, hI⟩ : ∃ I : Nat → AS → Prop, I = fun m' s => ∃ (k : Nat) (M : AH), m' = atoms.length - k ∧ k ≤ atoms.length ∧ s.tm 1 = .sl 2 (vs G.atom atoms) none ∧ s.tm 6 = .sl 5 (bavs (conB 0 vals)) (some h.length) ∧ s.tm 7 = .sl 3 (vs It.av ((conL atoms).take k)) (some (h.length + 1)) ∧ s.tm 9 = .i ((atoms.length : Int) - 1 - k) ∧
     s.h = h ++ ([.grow 52 5 (conB 0 vals).length, .grow 48 3 k] ++ M) := ⟨_, rfl⟩; refine QI I ?_ (m := atoms.length) ?_
   ·intro m' s hs; rw [hI] at hs; obtain ⟨tm, hp⟩ := s; dsimp only at hs; obtain ⟨k, M, rfl, hk, t1, t6, t7, t9, rfl⟩ := hs
    by_cases hlt : k < atoms.length
    ·have ei : ((atoms.length : Int) - 1 - k) = ((atoms.length - 1 - k : Nat) : Int) := by omega
     rw [ei] at t9
     have hi : atoms.length - 1 - k < atoms.length := by omega
     have hge : (((atoms.length - 1 - k : Nat) : Int)) ≥ 0 := by omega
     have hkc : k < (conL atoms).length := by omega
     have hx : (conL atoms)[k] = ⟨3 * atoms.length - ((atoms.length - 1 - k : Nat) : Int), atoms[atoms.length - 1 - k]⟩ := by
      simp only [conL, List.getElem_map, List.getElem_range]
      rw [List.getD_eq_getElem?_getD, List.getElem?_eq_getElem hi]; rfl
     have w2 : IntKind.i64.wrap (3 * (atoms.length : Int)) = 3 * (atoms.length : Int) := Xp (by omega)
     have w3 : IntKind.i64.wrap (3 * (atoms.length : Int) - ((atoms.length - 1 - k : Nat) : Int)) = 3 * (atoms.length : Int) - ((atoms.length - 1 - k : Nat) : Int) := Xp (by omega)
     have hsl : ((conL atoms).take k).length = k := by rw [List.length_take]; omega
     have hm1 : k + 1 ≤ maxLen := by simp only [maxLen]; omega
     have hm2 : (k + 1) * 48 ≤ 140737488355328 := by omega
     repeat (first | ((first | (with_reducible (first | refine Qa fun K E hK hE => ?_ | refine Qk fun K E hK hE => ?_))); simp -implicitDefEqProofs only [Qe, Qf, OpW, aop, AS.ev, AV.QoY, ↓reduceIte, QA, QB, Qt, aBin, XA, XV, QM, aLen, Xr, XS, goInt, ei24, ai24, ei30, un30, ti45, zi48, sp48, t1, t7, t9, hge, hi, QR, XR G.atom hi, QT, Xa, w2, w3, hsl, hm1, hm2, seval]) | (with_reducible (first | refine Qd fun K hK => ?_ | refine Qi ?_ | refine Qn ?_ | refine Qb ?_ | refine Qo ?_)) | ((with_reducible refine hK _ ?_); clear hK) | (refine Qg rfl ?_; simp only [↓reduceIte]))
     refine QV.mk (m' := atoms.length - (k + 1)) (by omega) ?_
     rw [hI]
     refine ⟨k + 1, M, rfl, hlt, t1, t6, ?_, ?_, rfl⟩
     ·simp only [upd, ↓reduceIte, Nat.reduceEqDiff]
      rw [List.take_succ_eq_append_getElem hkc, Qdr, hx]; rfl
     ·simp only [upd, ↓reduceIte]
      rw [Xp (by omega)]
      congr 2
      omega
    ·have hkl : k = atoms.length := by omega
     subst hkl
     rw [List.take_of_length_le (by omega)] at t7
     have hng : ¬ (((atoms.length : Int) - 1 - (atoms.length : Nat)) ≥ 0) := by omega
     repeat (first | (((with_reducible refine Qa fun K E hK hE => ?_)); simp -implicitDefEqProofs only [Qe, Qf, OpW, aop, AS.ev, ↓reduceIte, aBin, t6, t7, t9, hng, seval]) | (with_reducible (first | refine Qd fun K hK => ?_ | refine Qj ?_ | refine QC ?_ | refine Qb ?_ | refine Qw ?_ | refine Qy ?_)) | ((with_reducible refine hK _ ?_); clear hK) | (clear hK; (with_reducible refine hK _ ?_); clear hK) | (refine Qg rfl ?_; simp only [↓reduceIte, QpQ]))
     simp -implicitDefEqProofs only [Qer, ↓reduceIte, Nat.reduceEqDiff, QpO, QpR, QpS, List.mapM_cons, List.mapM_nil, Option.pure_def, Option.bind_eq_bind, QD, Ql, Qr, QpW]
     exact Qc (r' := .tup [.sl 5 (bavs (conB 0 vals)) none, .sl 3 (vs It.av (conL atoms)) none]) (htake _ _) (.tup rfl (Xe (.tok (QlI _ _)) (X3 (.tok (QhV It.av _ (QlO _) _))))) ⟨rfl, rfl⟩
   ·rw [hI]
    exact ⟨0, M, by omega, Nat.zero_le _, t1, t6, t7, by simp, rfl⟩
 ·rw [hI]
  exact ⟨0, [], by omega, Nat.zero_le _, rfl, rfl, rfl, by simp only [upd, ↓reduceIte]; simp, rfl, by simp [conB]⟩
mutual
theorem T.Qpo {b : List (Int × T)} {m : Int → Option Int} (hb : ∀ v, XB b v = (m v).map vT) : ∀ t : T, t.subst b = t.ren m
 | .mk k i s l => by
  rw [T.subst, T.ren, Qa0 hb l, hb]
  cases m i <;> rfl
theorem Qa0 {b : List (Int × T)} {m : Int → Option Int} (hb : ∀ v, XB b v = (m v).map vT) : ∀ l : List T, Xd b l = rens m l
 | [] => rfl
 | t :: l => by rw [Xd, rens, T.Qpo hb t, Qa0 hb l]
end
def XG (u N : Int) (W : List Int) : List (Int × T) := (W.filter fun v => decide (N ≤ v)).map fun v => (v, vT (5000 + u - v))
def Qfh (u N : Int) (W : List Int) (v : Int) : Option Int := if v ∈ W ∧ N ≤ v then some (5000 + u - v) else none
def YB (u N : Int) (W : List Int) (v : Int) : Int := if v ∈ W ∧ N ≤ v then 5000 + u - v else v
theorem Qjl (u N : Int) (W : List Int) (v : Int) : (Qfh u N W v).getD v = YB u N W v := by unfold Qfh YB; split <;> rfl
theorem QeO (u N v : Int) : ∀ W : List Int, XB (XG u N W) v = (Qfh u N W v).map vT
 | [] => by simp [XG, Qfh, XB]
 | w :: W => by
  have ih := QeO u N v W
  by_cases hw : N ≤ w
  ·have e : XG u N (w :: W) = (w, vT (5000 + u - w)) :: XG u N W := by simp [XG, hw]
   rw [e, XB]
   by_cases h : w = v
   ·subst h
    rw [if_pos rfl, Qfh, if_pos ⟨by simp, hw⟩]; rfl
   ·rw [if_neg h, ih, Qfh, Qfh]
    have : (v ∈ w :: W ∧ N ≤ v) ↔ (v ∈ W ∧ N ≤ v) := by simp [Ne.symm h]
    simp only [this]
  ·have e : XG u N (w :: W) = XG u N W := by simp [XG, hw]
   rw [e, ih, Qfh, Qfh]
   have : (v ∈ w :: W ∧ N ≤ v) ↔ (v ∈ W ∧ N ≤ v) := by
    constructor
    ·rintro ⟨h1, h2⟩
     rcases List.mem_cons.1 h1 with rfl | h1
     ·exact absurd h2 hw
     ·exact ⟨h1, h2⟩
    ·rintro ⟨h1, h2⟩; exact ⟨List.mem_cons_of_mem _ h1, h2⟩
   simp only [this]
theorem QeC (u N w : Int) (W : List Int) : XG u N (W ++ [w]) = XG u N W ++ (if N ≤ w then [(w, vT (5000 + u - w))] else []) := by
 rw [XG, XG, List.filter_append, List.map_append]
 congr 1
 by_cases h : N ≤ w <;> simp [h]
theorem Qco (u N : Int) (W : List Int) : (XG u N W).length ≤ W.length := by rw [XG, List.length_map]; exact List.length_filter_le _ _
theorem Qey {u N : Int} {W : List Int} : ∀ {l : List T}, oksC l → Xd (XG u N W) l = maps (YB u N W) l := fun {l} h => by
 rw [Qa0 (QeO u N · W), QcM _ h]
 congr 1
 exact funext fun v => Qjl u N W v
theorem Qk7 {u N : Int} {W : List Int} {g : G} (h : oksC g.args) (ho : g.op = 0) : subG (XG u N W) g = g.map (YB u N W) := by
 rw [subG, Qey h, G.map, ho]
structure Turned (N : Nat) (b : List (Int × T)) (l : List It) (u : Int) (W : List Int) : Prop where
 m : MainC N b l
 u : 1 ≤ u ∧ u ≤ 1000
 w : W = ded [] (varss (valsOf b N ++ argsG (storeOf b l)))
 r : ∀ v ∈ W, 0 ≤ v ∧ v < 1000
theorem Turned.mem {N : Nat} {b : List (Int × T)} {l : List It} {u : Int} {W : List Int} (H : Turned N b l u W) {v : Int} : v ∈ W ↔ v ∈ (Ct.mk (valsOf b N) (storeOf b l)).vars := by
 rw [H.w, QeU, Zb, Qd9, Ct.vars]; simp
theorem Turned.con {N : Nat} {b : List (Int × T)} {l : List It} {u : Int} {W : List Int} (H : Turned N b l u W) :
  ConOk N (Xd (XG u N W) (valsOf b N)) ((storeOf b l).map (subG (XG u N W))) ∧
  (Xi N (valsOf (conB 0 (Xd (XG u N W) (valsOf b N))) N) (storeOf (conB 0 (Xd (XG u N W) (valsOf b N))) (conL ((storeOf b l).map (subG (XG u N W)))))).length = (Xi N (valsOf b N) (storeOf b l)).length ∧
  ((Xi N (valsOf b N) (storeOf b l)).length ≤ 6 → cmpA (Yo N ⟨valsOf b N, storeOf b l⟩ (Xi N (valsOf b N) (storeOf b l)))
   (Yo N ⟨valsOf (conB 0 (Xd (XG u N W) (valsOf b N))) N, storeOf (conB 0 (Xd (XG u N W) (valsOf b N))) (conL ((storeOf b l).map (subG (XG u N W))))⟩
    (Xi N (valsOf (conB 0 (Xd (XG u N W) (valsOf b N))) N) (storeOf (conB 0 (Xd (XG u N W) (valsOf b N))) (conL ((storeOf b l).map (subG (XG u N W))))))) = 0) := by
 have hc := H.m.okC
 have hn := H.m.n
 obtain ⟨hu1, hu2⟩ := H.u
 have hv : Xd (XG u N W) (valsOf b N) = maps (YB u N W) (valsOf b N) := Qey hc.1
 have hs : (storeOf b l).map (subG (XG u N W)) = (storeOf b l).map (G.map (YB u N W)) := List.map_congr_left fun g hg => Qk7 (hc.2 g hg).1 (hc.2 g hg).2
 rw [hv, hs]
 have hrng : ∀ v ∈ (Ct.mk (valsOf b N) (storeOf b l)).vars, 0 ≤ v ∧ v < 1000 := fun v hm => H.r v (H.mem.2 hm)
 have hF : ∀ v ∈ (Ct.mk (valsOf b N) (storeOf b l)).vars, (N : Int) ≤ v → YB u N W v = 5000 + u - v := fun v hm hge => by rw [YB, if_pos ⟨H.mem.2 hm, hge⟩]
 have hf : ∀ v ∈ (Ct.mk (valsOf b N) (storeOf b l)).vars, v < N → YB u N W v = v := fun v hm hlt => by rw [YB, if_neg (by omega)]
 have hb : ∀ v ∈ (Ct.mk (valsOf b N) (storeOf b l)).vars, (N : Int) ≤ v → (N : Int) ≤ YB u N W v := fun v hm hge => by
  rw [hF v hm hge]; have := hrng v hm; omega
 have hi : ∀ v ∈ (Ct.mk (valsOf b N) (storeOf b l)).vars, ∀ w ∈ (Ct.mk (valsOf b N) (storeOf b l)).vars, YB u N W v = YB u N W w → v = w := fun v hm w hw e => by
  have h1 := hrng v hm
  have h2 := hrng w hw
  rcases Int.lt_or_le v N with q1 | q1
  ·rcases Int.lt_or_le w N with q2 | q2
   ·rw [hf v hm q1, hf w hw q2] at e; exact e
   ·rw [hf v hm q1, hF w hw q2] at e; omega
  ·rcases Int.lt_or_le w N with q2 | q2
   ·rw [hF v hm q1, hf w hw q2] at e; omega
   ·rw [hF v hm q1, hF w hw q2] at e; omega
 have hr : ∀ v ∈ (Ct.mk (valsOf b N) (storeOf b l)).vars, 0 ≤ YB u N W v ∧ YB u N W v ≤ 1048576 := fun v hm => by
  have h1 := hrng v hm
  rcases Int.lt_or_le v N with q1 | q1
  ·rw [hf v hm q1]; omega
  ·rw [hF v hm q1]; omega
 have K := H.m.con (h := YB u N W) rfl (.refl _) hf hb hr
 have hnd := YU N (valsOf b N) (storeOf b l)
 have hL : ∀ v, v ∈ Xi N (valsOf b N) (storeOf b l) ↔ v ∈ (Ct.mk (valsOf b N) (storeOf b l)).vars ∧ (N : Int) ≤ v := Qa1 _ _ _
 have hO := K.others (c := ⟨valsOf b N, storeOf b l⟩) rfl (.refl _) hi hf hb hnd hL
 refine ⟨K, hO, fun h6 => ?_⟩
 have K2 := K.main
 have hc2 := K2.okC
 have hn2 := YU N (valsOf (conB 0 (maps (YB u N W) (valsOf b N))) N) (storeOf (conB 0 (maps (YB u N W) (valsOf b N))) (conL ((storeOf b l).map (G.map (YB u N W)))))
 obtain ⟨e1, E1, hE1, eA⟩ := Qbb (n := N) hc hnd h6
 obtain ⟨e2, E2, hE2, eB⟩ := Qbb (n := N) hc2 hn2 (by omega)
 rw [eA, eB]
 have hv2 : (Ct.mk (valsOf (conB 0 (maps (YB u N W) (valsOf b N))) N) (storeOf (conB 0 (maps (YB u N W) (valsOf b N))) (conL ((storeOf b l).map (G.map (YB u N W)))))).vals = maps (YB u N W) (Ct.mk (valsOf b N) (storeOf b l)).vals := K.vals
 have hs2 : (Ct.mk (valsOf (conB 0 (maps (YB u N W) (valsOf b N))) N) (storeOf (conB 0 (maps (YB u N W) (valsOf b N))) (conL ((storeOf b l).map (G.map (YB u N W)))))).store.Perm ((Ct.mk (valsOf b N) (storeOf b l)).store.map (G.map (YB u N W))) := by
  show (storeOf _ _).Perm _
  rw [K.store]; exact List.reverse_perm _
 exact QdX hv2 hs2 hi hf hb hL (QaQ hv2 hs2 hi hf hb hnd hn2 hL (Qa1 _ _ _)) (fun p => by rw [← hE1]; exact QaM) (fun p => by rw [← hE2]; exact QaM) fun p _ => Qi4 hc.2 _
theorem Turned.of {N : Nat} {b : List (Int × T)} {l : List It} {u : Int} {W : List Int} (H : Turned N b l u W) (failed : Bool) :
  (ofC N b l failed).2 = (ofC N (conB 0 (Xd (XG u N W) (valsOf b N))) (conL ((storeOf b l).map (subG (XG u N W)))) failed).2 ∧
  ZZ (ofC N b l failed).1 (ofC N (conB 0 (Xd (XG u N W) (valsOf b N))) (conL ((storeOf b l).map (subG (XG u N W)))) failed).1 = 0 := by
 obtain ⟨K, hO, hA⟩ := H.con
 have hn := H.m.n
 have hb : Y9 N b l = false := by
  have h2 : l.any ZP = false := by
   rw [List.any_eq_false]; intro x hx
   rw [ZP, H.m.a x hx]; decide
  rw [Y9, H.m.r, h2, decide_eq_false (by omega), decide_eq_false (by omega)]; rfl
 have hb2 := K.good
 have hg2 := K.main.g
 generalize conB 0 (Xd (XG u N W) (valsOf b N)) = B at *
 generalize conL ((storeOf b l).map (subG (XG u N W))) = L at *
 cases failed with
 | true =>
  have e : ∀ b l, Y9 N b l = false → ofC N b l true = (⟨true, [], []⟩, 0) := fun b l h => by rw [ofC, if_neg (by rw [h]; decide), if_pos rfl]
  rw [e b l hb, e B L hb2]; exact ⟨rfl, Qez _⟩
 | false =>
  by_cases h6 : (Xi N (valsOf b N) (storeOf b l)).length ≤ 6
  ·rw [QiF hb H.m.g h6, QiF hb2 hg2 (by omega)]
   exact ⟨rfl, hA h6⟩
  ·have e : ∀ b l, Y9 N b l = false → (∀ g ∈ storeOf b l, rightAtomB g = true) → 6 < (Xi N (valsOf b N) (storeOf b l)).length → ofC N b l false = (An.nil, 15) := fun b l h hg h6 => by
    have h1 : ¬ (storeOf b l).any (fun g => !rightAtomB g) = true := by
     rw [List.any_eq_true]; rintro ⟨g, h2, h3⟩; rw [hg g h2] at h3; cases h3
    rw [ofC, if_neg (by rw [h]; decide), if_neg (by decide), Int.toNat_natCast, if_neg h1, if_pos h6]
   rw [e b l hb H.m.g (by omega), e B L hb2 hg2 (by omega)]; exact ⟨rfl, Qez _⟩
def outB (c : Cs) (u : Int) : Bool := c.big || (decide (u < 1) || (decide (u > 1000) || (!rightS c.b || (decide (c.vars < 0) || decide (c.vars > 100)))))
theorem QkN (c : Cs) (ho : c.ok) (u : Int) (hbad : outB c u = true) (h : AH) (hG : Xw h) : Xf Tryz.prog 4 [c.av, .i u] h fun o h' => o = .ret (.b true) ∧ h' = h := by
 have cl := Qec c ho
 have ce := fun L => Qcq (h ++ L) (hG.onto L)
 refine Qh Tryz.func4 rfl Tryz.call4 Tryz.ntmps4 (congrArg Array.toList Tryz.results4) (by simp) ?_
 iterate 3 (try (first | (((with_reducible refine Qa fun K E hK hE => ?_)); simp -implicitDefEqProofs only [Qe, Qf, OpW, aop, undef, AS.ev, Qv, AV.QoY, ↓reduceIte, Cs.cells, seval]) | (with_reducible refine Qd fun K hK => ?_) | ((with_reducible refine hK _ ?_); clear hK)))
 refine Yb (fun s => s.tm 46 = .b (outB c u) ∧ s.tm 1 = .i u ∧ s.tm 2 = .ptr h.length 0 0 ∧ s.h = h ++ [.cells 26 4 [c.av]]) ?_ ?_
 ·rintro ⟨tm, hp⟩ ⟨t46, t1, t2, rfl⟩
  dsimp only at t46 t1 t2
  rw [hbad] at t46
  refine Qg (by exact t46) ?_
  simp only [↓reduceIte]
  repeat (first | ((first | (with_reducible (first | refine Qa fun K E hK hE => ?_ | refine FunW.ret (FunW.call (ce _)) ?_))); simp -implicitDefEqProofs only [Qe, Qf, OpW, QK, aop, AS.ev, ↓reduceIte, Nat.reduceLT]) | (with_reducible (first | refine Qj ?_ | refine Qq ?_)) | ((with_reducible refine hK _ ?_); clear hK))
  simp only [QD, Ql, Qr, upd, ↓reduceIte, QpS, QpW]; first | refine Qc (htake _ _) (.keep (.v _)) ⟨rfl, rfl⟩ | refine Qc List.take_length (.keep (.v _)) ⟨rfl, rfl⟩
 ·cases kb : c.big with
  | true =>
   rw [kb] at cl
   have e : outB c u = true := by rw [outB, kb]; rfl
   (with_reducible refine Qk fun K E hK hE => ?_)
   (try simp only [Qqn]); refine QE 7 (fun K1 hK1 => ?_); simp -implicitDefEqProofs only [Qe, Qf, OpW, aop, AS.ev, ↓reduceIte, QA, QB, ti26, Cs.cells, Cs.isAgg, seval]; (repeat ((((with_reducible refine Qp cl ?_)); simp -implicitDefEqProofs only [Qe, Qf, OpW, QK, aop, undef, AS.ev, ↓reduceIte, seval]))); refine hK1 _ ?_; clear hK1
   (try simp only [QpV, Qp3]); refine QE 8 (fun K1 hK1 => ?_); simp -implicitDefEqProofs only [Qe, Qf, OpW, aop, undef, AS.ev, ↓reduceIte, seval]; refine hK1 _ ?_; clear hK1
   (try simp only [QpV, Qp3]); refine QE 6 (fun K1 hK1 => ?_); simp -implicitDefEqProofs only [Qe, Qf, OpW, aop, undef, AS.ev, ↓reduceIte, seval]; refine hK1 _ ?_; clear hK1
   (try simp only [QpV, Qp3])
   simp -implicitDefEqProofs only [Qe, Qf, OpW, aop, undef, AS.ev, ↓reduceIte, seval]
   refine hK _ ?_
   exact ⟨by simp only [upd, ↓reduceIte]; rw [e], rfl, rfl, rfl⟩
  | false =>
   rw [kb] at cl
   obtain ⟨hv, H⟩ := Cs.small ho kb
   have cr := QaY c.b (by have := H.b1; omega) (fun x hx => by have := H.b2 x hx; omega) H.b3
   by_cases k1 : u < 1
   ·have e : outB c u = true := by rw [outB, kb, decide_eq_true k1]; rfl
    (with_reducible refine Qk fun K E hK hE => ?_)
    (try simp only [Qqn]); refine QE 7 (fun K1 hK1 => ?_); simp -implicitDefEqProofs only [Qe, Qf, OpW, aop, AS.ev, ↓reduceIte, QA, QB, ti26, Cs.cells, Cs.isAgg, seval]; (repeat ((((with_reducible refine Qp cl ?_)); simp -implicitDefEqProofs only [Qe, Qf, OpW, QK, aop, undef, AS.ev, Qv, ↓reduceIte, aBin, k1, seval]))); refine hK1 _ ?_; clear hK1
    (try simp only [QpV, Qp3]); refine QE 8 (fun K1 hK1 => ?_); simp -implicitDefEqProofs only [Qe, Qf, OpW, aop, undef, AS.ev, ↓reduceIte, seval]; refine hK1 _ ?_; clear hK1
    (try simp only [QpV, Qp3]); refine QE 6 (fun K1 hK1 => ?_); simp -implicitDefEqProofs only [Qe, Qf, OpW, aop, undef, AS.ev, ↓reduceIte, seval]; refine hK1 _ ?_; clear hK1
    (try simp only [QpV, Qp3])
    simp -implicitDefEqProofs only [Qe, Qf, OpW, aop, undef, AS.ev, ↓reduceIte, seval]
    refine hK _ ?_
    exact ⟨by simp only [upd, ↓reduceIte]; rw [e], rfl, rfl, rfl⟩
   by_cases k2 : u > 1000
   ·have e : outB c u = true := by rw [outB, kb, decide_eq_false k1, decide_eq_true k2]; rfl
    (with_reducible refine Qk fun K E hK hE => ?_)
    (try simp only [Qqn]); refine QE 7 (fun K1 hK1 => ?_); simp -implicitDefEqProofs only [Qe, Qf, OpW, aop, AS.ev, ↓reduceIte, QA, QB, ti26, Cs.cells, Cs.isAgg, seval]; (repeat ((((with_reducible refine Qp cl ?_)); simp -implicitDefEqProofs only [Qe, Qf, OpW, QK, aop, undef, AS.ev, Qv, ↓reduceIte, aBin, k1, seval]))); refine hK1 _ ?_; clear hK1
    (try simp only [QpV, Qp3]); refine QE 8 (fun K1 hK1 => ?_); simp -implicitDefEqProofs only [Qe, Qf, OpW, aop, undef, AS.ev, Qv, ↓reduceIte, aBin, k2, seval]; refine hK1 _ ?_; clear hK1
    (try simp only [QpV, Qp3]); refine QE 6 (fun K1 hK1 => ?_); simp -implicitDefEqProofs only [Qe, Qf, OpW, aop, undef, AS.ev, ↓reduceIte, seval]; refine hK1 _ ?_; clear hK1
    (try simp only [QpV, Qp3])
    simp -implicitDefEqProofs only [Qe, Qf, OpW, aop, undef, AS.ev, ↓reduceIte, seval]
    refine hK _ ?_
    exact ⟨by simp only [upd, ↓reduceIte]; rw [e], rfl, rfl, rfl⟩
   cases k3 : rightS c.b with
   | false =>
    rw [k3] at cr
    have e : outB c u = true := by rw [outB, kb, decide_eq_false k1, decide_eq_false k2, k3]; rfl
    (with_reducible refine Qk fun K E hK hE => ?_)
    (try simp only [Qqn]); refine QE 7 (fun K1 hK1 => ?_); simp -implicitDefEqProofs only [Qe, Qf, OpW, aop, AS.ev, ↓reduceIte, QA, QB, ti26, Cs.cells, Cs.isAgg, seval]; (repeat ((((with_reducible refine Qp cl ?_)); simp -implicitDefEqProofs only [Qe, Qf, OpW, QK, aop, undef, AS.ev, Qv, ↓reduceIte, aBin, k1, seval]))); refine hK1 _ ?_; clear hK1
    (try simp only [QpV, Qp3]); refine QE 8 (fun K1 hK1 => ?_); simp -implicitDefEqProofs only [Qe, Qf, OpW, aop, undef, AS.ev, Qv, ↓reduceIte, Qm, QA, QB, aBin, ti23, YX, Cs.cells, k2, seval]; (repeat ((((with_reducible refine Qp cr ?_)); simp -implicitDefEqProofs only [Qe, Qf, OpW, QK, aop, AS.ev, ↓reduceIte, seval]))); refine hK1 _ ?_; clear hK1
    (try simp only [QpV, Qp3]); refine QE 6 (fun K1 hK1 => ?_); simp -implicitDefEqProofs only [Qe, Qf, OpW, aop, undef, AS.ev, ↓reduceIte, seval]; refine hK1 _ ?_; clear hK1
    (try simp only [QpV, Qp3])
    simp -implicitDefEqProofs only [Qe, Qf, OpW, aop, undef, AS.ev, ↓reduceIte, seval]
    refine hK _ ?_
    exact ⟨by simp only [upd, ↓reduceIte]; rw [e], rfl, rfl, rfl⟩
   | true =>
    rw [k3] at cr
    by_cases k4 : c.vars < 0
    ·have e : outB c u = true := by rw [outB, kb, decide_eq_false k1, decide_eq_false k2, k3, decide_eq_true k4]; rfl
     (with_reducible refine Qk fun K E hK hE => ?_)
     (try simp only [Qqn]); refine QE 7 (fun K1 hK1 => ?_); simp -implicitDefEqProofs only [Qe, Qf, OpW, aop, AS.ev, ↓reduceIte, QA, QB, ti26, Cs.cells, Cs.isAgg, seval]; (repeat ((((with_reducible refine Qp cl ?_)); simp -implicitDefEqProofs only [Qe, Qf, OpW, QK, aop, undef, AS.ev, Qv, ↓reduceIte, aBin, k1, seval]))); refine hK1 _ ?_; clear hK1
     (try simp only [QpV, Qp3]); refine QE 8 (fun K1 hK1 => ?_); simp -implicitDefEqProofs only [Qe, Qf, OpW, aop, undef, AS.ev, Qv, ↓reduceIte, Qm, QA, QB, aBin, ti23, YX, Cs.cells, k2, seval]; (repeat ((((with_reducible refine Qp cr ?_)); simp -implicitDefEqProofs only [Qe, Qf, OpW, QK, aop, AS.ev, ↓reduceIte, seval]))); refine hK1 _ ?_; clear hK1
     (try simp only [QpV, Qp3]); refine QE 6 (fun K1 hK1 => ?_); simp -implicitDefEqProofs only [Qe, Qf, OpW, aop, AS.ev, ↓reduceIte, Qm, QA, QB, aBin, ti3, YJ, Cs.cells, k4, seval]; refine hK1 _ ?_; clear hK1
     (try simp only [QpV, Qp3])
     simp -implicitDefEqProofs only [Qe, Qf, OpW, aop, undef, AS.ev, ↓reduceIte, seval]
     refine hK _ ?_
     exact ⟨by simp only [upd, ↓reduceIte]; rw [e], rfl, rfl, rfl⟩
    ·have e : outB c u = decide (c.vars > 100) := by rw [outB, kb, decide_eq_false k1, decide_eq_false k2, k3, decide_eq_false k4]; rfl
     rw [e] at hbad
     have k5 : c.vars > 100 := of_decide_eq_true hbad
     (with_reducible refine Qk fun K E hK hE => ?_)
     (try simp only [Qqn]); refine QE 7 (fun K1 hK1 => ?_); simp -implicitDefEqProofs only [Qe, Qf, OpW, aop, AS.ev, ↓reduceIte, QA, QB, ti26, Cs.cells, Cs.isAgg, seval]; (repeat ((((with_reducible refine Qp cl ?_)); simp -implicitDefEqProofs only [Qe, Qf, OpW, QK, aop, undef, AS.ev, Qv, ↓reduceIte, aBin, k1, seval]))); refine hK1 _ ?_; clear hK1
     (try simp only [QpV, Qp3]); refine QE 8 (fun K1 hK1 => ?_); simp -implicitDefEqProofs only [Qe, Qf, OpW, aop, undef, AS.ev, Qv, ↓reduceIte, Qm, QA, QB, aBin, ti23, YX, Cs.cells, k2, seval]; (repeat ((((with_reducible refine Qp cr ?_)); simp -implicitDefEqProofs only [Qe, Qf, OpW, QK, aop, AS.ev, ↓reduceIte, seval]))); refine hK1 _ ?_; clear hK1
     (try simp only [QpV, Qp3]); refine QE 6 (fun K1 hK1 => ?_); simp -implicitDefEqProofs only [Qe, Qf, OpW, aop, AS.ev, ↓reduceIte, Qm, QA, QB, aBin, ti3, YJ, Cs.cells, k4, seval]; refine hK1 _ ?_; clear hK1
     (try simp only [QpV, Qp3])
     simp -implicitDefEqProofs only [Qe, Qf, OpW, aop, AS.ev, ↓reduceIte, Qm, QA, QB, aBin, ti3, YJ, Cs.cells, k5, seval]
     refine hK _ ?_
     exact ⟨by simp only [upd, ↓reduceIte]; rw [e, decide_eq_true k5], rfl, rfl, rfl⟩
def RowS (S : List G) (n k : Nat) (sv : AV) (M : AH) : Prop :=
 (k = 0 ∧ sv = .sl 2 [] (some (n + 2)) ∧ M = [.dead]) ∨ (0 < k ∧ ∃ M' : AH, sv = .arr (n + (M'.length + 2)) 0 k ∧ M = M' ++ [.cells 45 2 (vs G.atom (S.take k))])
theorem Qnd {n : Int} {b : List (Int × T)} {l : List It} (failed : Bool) (hb : Y9 n b l = false) : (ofC n b l failed).2 ≠ 2 := by
 rw [ofC, if_neg (by rw [hb]; decide)]
 split
 ·show (0 : Int) ≠ 2; decide
 split
 ·show (6 : Int) ≠ 2; decide
 split
 ·show (15 : Int) ≠ 2; decide
 ·show (0 : Int) ≠ 2; decide
theorem QlU (c : Cs) (ho : c.ok) (u : Int) (hbad : outB c u = false) (h : AH) (hG : Xw h) : Xf Tryz.prog 4 [c.av, .i u] h fun o h' => o = .ret (.b true) ∧ h' = h := by
 have cl := Qec c ho
 have ce := fun L => Qcq (h ++ L) (hG.onto L)
 have hbad' := hbad
 simp only [outB, Bool.or_eq_false_iff, decide_eq_false_iff_not, Bool.not_eq_false'] at hbad'
 obtain ⟨kb, k1, k2, k3, k4, k5⟩ := hbad'
 rw [kb] at cl
 obtain ⟨hv, H⟩ := Cs.small ho kb
 have cr := QaY c.b (by have := H.b1; omega) (fun x hx => by have := H.b2 x hx; omega) H.b3
 rw [k3] at cr
 have e46 : outB c u = decide (c.vars > 100) := by rw [outB, kb, decide_eq_false k1, decide_eq_false k2, k3, decide_eq_false k4]; rfl
 obtain ⟨N, hN⟩ : ∃ N : Nat, c.vars = (N : Int) := ⟨c.vars.toNat, by omega⟩
 have hb1 := H.b1
 have hl7 := H.l1
 have hn100 : N ≤ 100 := by omega
 refine Qh Tryz.func4 rfl Tryz.call4 Tryz.ntmps4 (congrArg Array.toList Tryz.results4) (by simp) ?_
 iterate 3 (try (first | (((with_reducible refine Qa fun K E hK hE => ?_)); simp -implicitDefEqProofs only [Qe, Qf, OpW, aop, undef, AS.ev, Qv, AV.QoY, ↓reduceIte, Cs.cells, seval]) | (with_reducible refine Qd fun K hK => ?_) | ((with_reducible refine hK _ ?_); clear hK)))
 refine Yb (fun s => s.tm 46 = .b (outB c u) ∧ s.tm 1 = .i u ∧ s.tm 2 = .ptr h.length 0 0 ∧ s.h = h ++ [.cells 26 4 [c.av]]) ?_ ?_
 rotate_left 1
 ·(with_reducible refine Qk fun K E hK hE => ?_)
  (try simp only [Qqn]); refine QE 7 (fun K1 hK1 => ?_); simp -implicitDefEqProofs only [Qe, Qf, OpW, aop, AS.ev, ↓reduceIte, QA, QB, ti26, Cs.cells, Cs.isAgg, seval]; (repeat ((((with_reducible refine Qp cl ?_)); simp -implicitDefEqProofs only [Qe, Qf, OpW, QK, aop, undef, AS.ev, Qv, ↓reduceIte, aBin, k1, seval]))); refine hK1 _ ?_; clear hK1
  (try simp only [QpV, Qp3]); refine QE 8 (fun K1 hK1 => ?_); simp -implicitDefEqProofs only [Qe, Qf, OpW, aop, undef, AS.ev, Qv, ↓reduceIte, Qm, QA, QB, aBin, ti23, YX, Cs.cells, k2, seval]; (repeat ((((with_reducible refine Qp cr ?_)); simp -implicitDefEqProofs only [Qe, Qf, OpW, QK, aop, AS.ev, ↓reduceIte, seval]))); refine hK1 _ ?_; clear hK1
  (try simp only [QpV, Qp3]); refine QE 6 (fun K1 hK1 => ?_); simp -implicitDefEqProofs only [Qe, Qf, OpW, aop, AS.ev, ↓reduceIte, Qm, QA, QB, aBin, ti3, YJ, Cs.cells, k4, seval]; refine hK1 _ ?_; clear hK1
  (try simp only [QpV, Qp3])
  simp -implicitDefEqProofs only [Qe, Qf, OpW, aop, AS.ev, ↓reduceIte, Qm, QA, QB, aBin, ti3, YJ, Cs.cells, k5, seval]
  refine hK _ ?_
  exact ⟨by simp only [upd, ↓reduceIte]; rw [e46, decide_eq_false k5], rfl, rfl, rfl⟩
 rintro ⟨tm, hp⟩ ⟨t46, t1, t2, rfl⟩
 dsimp only at t46 t1 t2
 rw [hbad] at t46
 clear cl cr
 refine Qg (by exact t46) ?_
 simp only [↓reduceIte, QpQ]
 repeat (first | (((with_reducible refine Qa fun K E hK hE => ?_)); simp -implicitDefEqProofs only [Qe, Qf, OpW, aop, AS.ev, Nat.reduceLT]) | (with_reducible (first | refine Qd fun K hK => ?_ | refine Qi ?_ | refine Qn ?_ | refine Qb ?_)) | ((with_reducible refine hK _ ?_); clear hK))
 refine XQ 5 41 4 rfl ?_
 obtain ⟨I, hI⟩ : ∃ I : Nat → AS → Prop, I = fun m' s => ∃ (k : Nat), m' = N - k ∧ k ≤ N ∧ s.tm 1 = .i u ∧ s.tm 2 = .ptr h.length 0 0 ∧ s.tm 5 = .sl 4 (avs (valsOf c.b k)) (some (h.length + 1)) ∧ s.tm 6 = .i k ∧ s.h = h ++ [.cells 26 4 [c.av], .grow 41 4 k] := ⟨_, rfl⟩; refine QI I ?_ (m := N) ?_
 ·intro m' s hs; rw [hI] at hs; obtain ⟨tm, hp⟩ := s; dsimp only at hs; obtain ⟨k, rfl, hk, t1, t2, t5, t6, rfl⟩ := hs
  by_cases hlt : k < N
  ·have cv : Pure Tryz.prog 16 [.i (k : Int)] (vT k).av := QbV k
   have ca := YT c.b (by omega) 1 (by omega) (vT k) (Nat.le_refl _)
   have hm1 : k + 1 ≤ maxLen := by simp only [maxLen]; omega
   have hm2 : (k + 1) * 56 ≤ 140737488355328 := by omega
   have hvl := XO c.b k
   have hltI : (k : Int) < c.vars := by omega
   repeat (first | ((first | (with_reducible (first | refine Qa fun K E hK hE => ?_ | refine Qk fun K E hK hE => ?_ | refine Qz cv ?_ | refine Qz ca ?_)) | (refine QG (id := 7) [(0, 0), (1, 0), (2, 0), (3, 0), (4, 1), (5, 1), (6, 0), (7, 2), (8, 0)] mixed (by kernel_rfl) fun K hK => ?_)); simp -implicitDefEqProofs only [Qe, Qf, OpW, aop, AS.ev, AV.QoY, ↓reduceIte, Qm, QA, QB, aBin, QM, Xr, XS, ti3, ti23, YJ, YX, ei29, ai29, zi41, t2, t5, t6, hltI, hvl, hm1, hm2, Cs.cells, seval]) | (with_reducible (first | refine Qd fun K hK => ?_ | refine Qi ?_ | refine Qn ?_ | refine Qb ?_ | refine Qo ?_)) | ((with_reducible refine hK _ ?_); clear hK) | (refine Qg rfl ?_; simp only [↓reduceIte]))
   refine QV.mk (m' := N - (k + 1)) (by omega) ?_
   rw [hI]
   refine ⟨k + 1, rfl, hlt, t1, t2, ?_, ?_, rfl⟩
   ·simp only [upd, ↓reduceIte, Nat.reduceEqDiff]
    rw [ZE, Ye, Zi]
   ·simp only [upd, ↓reduceIte]
    rw [QP (by omega)]
  ·have hkN : N = k := by omega
   subst hkN
   have hltI : ¬ (N : Int) < c.vars := by omega
   repeat (first | (((with_reducible refine Qa fun K E hK hE => ?_)); simp -implicitDefEqProofs only [Qe, Qf, OpW, aop, AS.ev, ↓reduceIte, Qm, QA, QB, aBin, ti3, YJ, t2, t6, hltI, Cs.cells, seval]) | (with_reducible (first | refine Qd fun K hK => ?_ | refine Qi ?_ | refine QC ?_ | refine Qb ?_ | refine Qw ?_ | refine Qy ?_)) | ((with_reducible refine hK _ ?_); clear hK) | (clear hK; (with_reducible refine hK _ ?_); clear hK) | (refine Qg rfl ?_; simp only [↓reduceIte, QpQ]))
   refine QgS 7 2 rfl ?_
   have hV := H.vals N
   have hS := H.store
   have hSl := YF c.b c.l
   have hlv := XO c.b N
   have hgo := Qnc H (fun x hx => (ho.l x hx).2)
   have hgS : ∀ k (hk : k < c.l.length) (h2 : k < (storeOf c.b c.l).length), (storeOf c.b c.l)[k] = subG c.b (c.l[k]).atom := fun k hk h2 => by simp [storeOf]
   generalize hVV : valsOf c.b N = V at *
   generalize hSS : storeOf c.b c.l = S at *
   have hlvn := QW V
   obtain ⟨I, hI⟩ : ∃ I : Nat → AS → Prop, I = fun m' s => ∃ (k : Nat) (sv : AV) (M : AH), m' = c.l.length - k ∧ k ≤ c.l.length ∧ RowS S h.length k sv M ∧ s.tm 1 = .i u ∧ s.tm 2 = .ptr h.length 0 0 ∧ s.tm 5 = .sl 4 (avs (V ++ argsG (S.take k))) (some (h.length + 1)) ∧ s.tm 7 = sv ∧ s.tm 8 = .i k ∧ s.h = h ++ ([.cells 26 4 [c.av], .grow 41 4 (V ++ argsG (S.take k)).length] ++ M) := ⟨_, rfl⟩; refine QI I ?_ (m := c.l.length) ?_
   ·intro m' s hs; rw [hI] at hs; obtain ⟨tm, hp⟩ := s; dsimp only at hs; obtain ⟨k, sv, M, rfl, hk, hst, t1, t2, t5, t7, t8, rfl⟩ := hs
    by_cases hlt : k < c.l.length
    ·have hkS : k < S.length := by omega
     have hx := List.getElem_mem hlt
     have h50 := H.l2 _ hx
     have ca : Pure Tryz.prog 17 [.sl 5 (bavs c.b) none, .agg [.v (.string (c.l[k]).atom.name), .sl 4 (avs (c.l[k]).atom.args) none]] (S[k]).atom := by
      rw [hgS k hlt hkS]; exact Zp c.b (by omega) (c.l[k]).atom (by omega)
     have hts : vs G.atom (S.take (k + 1)) = vs G.atom (S.take k) ++ [(S[k]).atom] := by rw [List.take_succ_eq_append_getElem hkS, Qdr]; rfl
     have hta : V ++ argsG (S.take (k + 1)) = V ++ argsG (S.take k) ++ (S[k]).args := by rw [Qat hkS, List.append_assoc]
     have hla : (V ++ argsG (S.take k)).length + (S[k]).args.length ≤ 200000 := by
      have h1 := QW (V ++ argsG (S.take (k + 1)))
      have h2 := QbW S (k + 1)
      rw [X6] at h1
      rw [hta, List.length_append] at h1
      omega
     have hb1 : (V ++ argsG (S.take k)).length + (S[k]).args.length ≤ maxLen := by simp only [maxLen]; omega
     have hb2 : ((V ++ argsG (S.take k)).length + (S[k]).args.length) * 56 ≤ 140737488355328 := by omega
     rcases hst with ⟨rfl, rfl, rfl⟩ | ⟨hkp, M', rfl, rfl⟩
     ·have h1m : 1 ≤ maxLen := by simp only [maxLen]; omega
      have hltI : (0 : Int) < (c.l.length : Int) := by omega
      have h01 : (0 : Int) < ((1 : Nat) : Int) := by decide
      rw [List.take_zero] at hb1 hb2
      repeat (first | ((first | (with_reducible (first | refine Qa fun K E hK hE => ?_ | refine Qk fun K E hK hE => ?_ | refine Qz ca ?_)) | (refine Qu (id := 12) [(0, 0), (1, 0), (2, 0), (3, 0), (4, 0), (5, 0), (6, 0), (7, 0), (8, 0), (9, 1), (10, 0), (11, 4), (12, 0)] mixed (by kernel_rfl) fun K hK => ?_)); simp -implicitDefEqProofs only [Qe, Qf, OpW, aop, AS.ev, AV.QoY, ↓reduceIte, Qm, QA, QB, Qt, aBin, QM, aLen, Xr, XS, goInt, ti23, ti24, ei24, un24, YX, QaS, ti29, ai29, ei30, ai30, ti45, YK, zi45, Qdy, Qqz, t2, t5, t7, t8, hltI, QR, XR It.av hlt, It.cells, It.isAgg, QT, Cs.cells, hb1, hb2, h1m, h01, seval]) | (with_reducible (first | refine Qd fun K hK => ?_ | refine Qi ?_ | refine Qn ?_ | refine Qb ?_ | refine Qo ?_)) | ((with_reducible refine hK _ ?_); clear hK) | (refine Qg rfl ?_; simp only [↓reduceIte]))
      refine QV.mk (m' := c.l.length - (0 + 1)) (by omega) ?_
      rw [hI]
      refine ⟨0 + 1, .arr (h.length + 3) 0 (0 + 1), [.dead, .cells 45 2 [(S[0]).atom]], rfl, hlt, .inr ⟨by omega, [.dead], rfl, by rw [hts]; simp [vs]⟩, t1, t2, ?_, rfl, ?_, ?_⟩
      ·simp only [upd, ↓reduceIte, Nat.reduceEqDiff]
       rw [hta, Ye (V ++ argsG (S.take 0))]; rfl
      ·simp only [upd, ↓reduceIte]
       rfl
      ·rw [hta]; simp; omega
     ·have hkb : k + 1 ≤ maxLen := by simp only [maxLen]; omega
      have hkc : (k + 1) * 40 ≤ 140737488355328 := by omega
      have hkl2 : (vs G.atom (S.take k)).length = k := by rw [QR, List.length_take]; omega
      have hkI : (k : Int) < ((k + 1 : Nat) : Int) := by omega
      have hgk : (vs G.atom (S.take k) ++ [(S[k]).atom])[k]? = some (S[k]).atom := by rw [List.getElem?_append_right (by omega), hkl2]; simp
      repeat (first | ((first | (with_reducible (first | refine Qa fun K E hK hE => ?_ | refine Qk fun K E hK hE => ?_ | refine Qz ca ?_)) | (refine Qu (id := 12) [(0, 0), (1, 0), (2, 0), (3, 0), (4, 0), (5, 0), (6, 0), (7, 0), (8, 0), (9, 1), (10, 0), (11, 4), (12, 0)] mixed (by kernel_rfl) fun K hK => ?_)); simp -implicitDefEqProofs only [Qe, Qf, OpW, aop, AS.ev, AV.QoY, ↓reduceIte, Qm, QA, QB, Qt, aBin, QM, aLen, Xr, XS, goInt, ti23, ti24, ei24, un24, YX, QaS, ti29, ai29, ei30, ai30, ti45, YK, zi45, Qdy, aopR, Qbf, t2, t5, t7, t8, hlt, hkI, hgk, QR, XR It.av hlt, It.cells, It.isAgg, QT, Cs.cells, hb1, hb2, hkb, hkc, hkl2, seval]) | (with_reducible (first | refine Qd fun K hK => ?_ | refine Qi ?_ | refine Qn ?_ | refine Qb ?_ | refine Qo ?_)) | ((with_reducible refine hK _ ?_); clear hK) | (refine Qg rfl ?_; simp only [↓reduceIte]))
      refine QV.mk (m' := c.l.length - (k + 1)) (by omega) ?_
      rw [hI]
      refine ⟨k + 1, .arr (h.length + ((M' ++ [AB.dead]).length + 2)) 0 (k + 1), (M' ++ [AB.dead]) ++ [.cells 45 2 (vs G.atom (S.take (k + 1)))], rfl, hlt, .inr ⟨by omega, _, rfl, rfl⟩, t1, t2, ?_, ?_, ?_, ?_⟩
      ·simp only [upd, ↓reduceIte, Nat.reduceEqDiff]
       rw [hta, Ye (V ++ argsG (S.take k))]
      ·simp only [upd, ↓reduceIte, Nat.reduceEqDiff]
       simp
      ·simp only [upd, ↓reduceIte]
       rw [QP (by omega)]
      ·rw [hta, hts]; simp; omega
    ·have hkl : k = c.l.length := by omega
     have hSk : S.take k = S := by rw [hkl, ← hSl, List.take_length]
     have hnA : ndsL (V ++ argsG S) ≤ 200000 := by rw [X6]; have := QbE S; omega
     have cV := Qd3 (V ++ argsG S) (by omega)
     have cV' := Yi (args := [AV.sl 4 (avs (V ++ argsG S)) (some (h.length + 1))]) (.cons (.sl rfl (fun y hy => by rw [YO, List.mem_map] at hy; obtain ⟨t, _, rfl⟩ := hy; exact T.cells4 t) (.refl _)) .nil) cV
     have hWl : (ded [] (varss (V ++ argsG S))).length ≤ 200000 := by
      have h1 := YW [] (varss (V ++ argsG S))
      have h2 := Z4 (V ++ argsG S)
      simp only [Qp0] at h1
      omega
     obtain ⟨W, hW⟩ : ∃ W, W = ded [] (varss (V ++ argsG S)) := ⟨_, rfl⟩
     rw [← hW] at cV' hWl
     rw [hSk] at t5 ⊢
     repeat (first | ((first | (with_reducible (first | refine Qa fun K E hK hE => ?_ | refine Qp cV' ?_))); simp -implicitDefEqProofs only [Qe, Qf, OpW, QK, aop, AS.ev, ↓reduceIte, Qm, QA, QB, aBin, aLen, goInt, ti24, un24, QaS, t2, t5, t8, hlt, QR, Cs.cells, seval]) | (with_reducible (first | refine Qd fun K hK => ?_ | refine Qi ?_ | refine QC ?_ | refine Qb ?_ | refine Qw ?_ | refine Qy ?_)) | ((with_reducible refine hK _ ?_); clear hK) | (clear hK; (with_reducible refine hK _ ?_); clear hK) | (refine Qg rfl ?_; simp only [↓reduceIte, QpQ]))
     refine XQ 10 52 5 rfl ?_
     obtain ⟨I, hI⟩ : ∃ I : Nat → AS → Prop, I = fun m' s => ∃ (q : Nat), m' = W.length - q ∧ q ≤ W.length ∧ (∀ v ∈ W.take q, 0 ≤ v ∧ v < 1000) ∧ s.tm 1 = .i u ∧ s.tm 2 = .ptr h.length 0 0 ∧ s.tm 5 = .sl 4 (avs (V ++ argsG S)) (some (h.length + 1)) ∧ s.tm 7 = sv ∧ s.tm 9 = .sl 1 (ints W) none ∧
       s.tm 10 = .sl 5 (bavs (XG u N (W.take q))) (some (h.length + (M.length + 2))) ∧ s.tm 11 = .i q ∧ s.h = h ++ ([.cells 26 4 [c.av], .grow 41 4 (V ++ argsG S).length] ++ (M ++ [.grow 52 5 (XG u N (W.take q)).length])) := ⟨_, rfl⟩; refine QI I ?_ (m := W.length) ?_
     ·intro m' s hs; rw [hI] at hs; obtain ⟨tm, hp⟩ := s; dsimp only at hs; obtain ⟨q, rfl, hq, hall, t1, t2, t5, t7, t9, t10, t11, rfl⟩ := hs
      by_cases hlt : q < W.length
      ·by_cases hv0 : W[q] < 0
       ·repeat (first | ((first | (with_reducible (first | refine Qa fun K E hK hE => ?_ | refine FunW.ret (FunW.call (ce _)) ?_))); simp -implicitDefEqProofs only [Qe, Qf, OpW, QK, aop, undef, AS.ev, ↓reduceIte, QA, QB, Qt, aBin, aLen, goInt, ti3, ei49, un49, t9, t11, hlt, XK hlt, hv0, seval]) | (with_reducible (first | refine Qd fun K hK => ?_ | refine Qi ?_ | refine Qj ?_ | refine Qn ?_ | refine Qb ?_ | refine Qq ?_ | refine Qs ?_)) | ((with_reducible refine hK _ ?_); clear hK) | (refine Qg rfl ?_; simp only [↓reduceIte]))
        simp only [QD, Ql, Qr, upd, ↓reduceIte, QpS, QpW]; first | refine Qc (htake _ _) (.keep (.v _)) ⟨rfl, rfl⟩ | refine Qc List.take_length (.keep (.v _)) ⟨rfl, rfl⟩
       by_cases hv1 : W[q] ≥ 1000
       ·repeat (first | ((first | (with_reducible (first | refine Qa fun K E hK hE => ?_ | refine FunW.ret (FunW.call (ce _)) ?_))); simp -implicitDefEqProofs only [Qe, Qf, OpW, QK, aop, AS.ev, ↓reduceIte, QA, QB, Qt, aBin, aLen, goInt, ti3, ei49, un49, t9, t11, hlt, XK hlt, hv0, hv1, seval]) | (with_reducible (first | refine Qd fun K hK => ?_ | refine Qi ?_ | refine Qj ?_ | refine Qn ?_ | refine Qb ?_ | refine Qq ?_ | refine Qs ?_)) | ((with_reducible refine hK _ ?_); clear hK) | (refine Qg rfl ?_; simp only [↓reduceIte]))
        simp only [QD, Ql, Qr, upd, ↓reduceIte, QpS, QpW]; first | refine Qc (htake _ _) (.keep (.v _)) ⟨rfl, rfl⟩ | refine Qc List.take_length (.keep (.v _)) ⟨rfl, rfl⟩
       have hts : W.take (q + 1) = W.take q ++ [W[q]] := List.take_succ_eq_append_getElem hlt
       have hall' : ∀ v ∈ W.take (q + 1), 0 ≤ v ∧ v < 1000 := fun v hv => by
        rw [hts] at hv
        rcases List.mem_append.1 hv with hv | hv
        ·exact hall v hv
        ·rw [List.mem_singleton] at hv; subst hv; omega
       have hTl : (XG u N (W.take q)).length ≤ 200000 := by
        have := Qco u N (W.take q)
        rw [List.length_take] at this; omega
       by_cases hge : W[q] ≥ c.vars
       ·have cv : Pure Tryz.prog 16 [.i (5000 + u - W[q])] (vT (5000 + u - W[q])).av := QbV _
        have w1 : IntKind.i64.wrap (5000 + u) = 5000 + u := Xp (by omega)
        have w2 : IntKind.i64.wrap (5000 + u - W[q]) = 5000 + u - W[q] := Xp (by omega)
        have hm1 : (XG u N (W.take q)).length + 1 ≤ maxLen := by simp only [maxLen]; omega
        have hm2 : ((XG u N (W.take q)).length + 1) * 64 ≤ 140737488355328 := by omega
        have htn : XG u N (W.take (q + 1)) = XG u N (W.take q) ++ [(W[q], vT (5000 + u - W[q]))] := by rw [hts, QeC, if_pos (by omega)]
        repeat (first | ((first | (with_reducible (first | refine Qa fun K E hK hE => ?_ | refine Qk fun K E hK hE => ?_ | refine Qz cv ?_)) | (refine Qu (id := 21) [(0, 0), (1, 0), (2, 0), (3, 0), (4, 0), (5, 0), (6, 0)] mixed (by kernel_rfl) fun K hK => ?_) | (refine QG (id := 22) [(0, 0), (1, 0), (2, 0), (3, 0), (4, 0), (5, 0), (6, 0), (7, 0), (8, 0), (9, 0), (10, 0), (11, 0), (12, 1), (13, 0), (14, 0), (15, 2), (16, 0)] mixed (by kernel_rfl) fun K hK => ?_)); simp -implicitDefEqProofs only [Qe, Qf, OpW, aop, AS.ev, AV.QoY, ↓reduceIte, Qm, QA, QB, Qt, aBin, XA, XV, QM, aLen, Xr, XS, goInt, ti3, ei23, ai23, YJ, ei49, un49, zi52, sp52, t1, t2, t9, t10, t11, hlt, XK hlt, hv0, hv1, hge, w1, w2, hm1, hm2, QL, Cs.cells, seval]) | (with_reducible (first | refine Qd fun K hK => ?_ | refine Qi ?_ | refine Qn ?_ | refine Qb ?_ | refine Qo ?_)) | ((with_reducible refine hK _ ?_); clear hK) | (refine Qg rfl ?_; simp only [↓reduceIte, QpQ]))
        refine QV.mk (m' := W.length - (q + 1)) (by omega) ?_
        rw [hI]
        refine ⟨q + 1, rfl, hlt, hall', t1, t2, t5, t7, t9, ?_, ?_, ?_⟩
        ·simp only [upd, ↓reduceIte, Nat.reduceEqDiff]
         rw [htn, Qc2]; rfl
        ·simp only [upd, ↓reduceIte]
         rw [QP (by omega)]
        ·rw [htn]; simp
       ·have htn : XG u N (W.take (q + 1)) = XG u N (W.take q) := by rw [hts, QeC, if_neg (by omega), List.append_nil]
        repeat (first | ((first | (with_reducible (first | refine Qa fun K E hK hE => ?_ | refine Qk fun K E hK hE => ?_)) | (refine Qu (id := 21) [(0, 0), (1, 0), (2, 0), (3, 0), (4, 0), (5, 0), (6, 0)] mixed (by kernel_rfl) fun K hK => ?_)); simp -implicitDefEqProofs only [Qe, Qf, OpW, aop, AS.ev, ↓reduceIte, Qm, QA, QB, Qt, aBin, aLen, goInt, ti3, YJ, ei49, un49, t2, t9, t11, hlt, XK hlt, hv0, hv1, hge, Cs.cells, seval]) | (with_reducible (first | refine Qd fun K hK => ?_ | refine Qi ?_ | refine Qn ?_ | refine Qb ?_ | refine Qo ?_)) | ((with_reducible refine hK _ ?_); clear hK) | (refine Qg rfl ?_; simp only [↓reduceIte, QpQ]))
        refine QV.mk (m' := W.length - (q + 1)) (by omega) ?_
        rw [hI]
        refine ⟨q + 1, rfl, hlt, hall', t1, t2, t5, t7, t9, by rw [htn]; exact t10, ?_, by rw [htn]; rfl⟩
        simp only [upd, ↓reduceIte]
        rw [QP (by omega)]
      ·have hqe : q = W.length := by omega
       subst hqe
       rw [List.take_length] at hall t10 ⊢
       have hTl := Qco u N W
       obtain ⟨T1, hT1⟩ : ∃ T1, T1 = XG u N W := ⟨_, rfl⟩
       have hT1n : ∀ x ∈ T1, x.2.nds ≤ 1 := fun x hx => by
        rw [hT1, XG] at hx
        obtain ⟨v, _, rfl⟩ := List.mem_map.1 hx
        exact Nat.le_refl 1
       rw [← hT1] at t10 hTl ⊢
       have wT : ∀ t : T, t.nds ≤ 1000000 → Pure Tryz.prog 15 [.sl 5 (bavs T1) (some (h.length + (M.length + 2))), t.av] (t.subst T1).av := fun t ht =>
        Yi (.cons (.sl rfl (fun y hy => by rw [bavs, List.mem_map] at hy; obtain ⟨t, _, rfl⟩ := hy; rfl) (.refl _)) (.cons (.refl _) .nil)) (YT T1 (by omega) 1000000 (Nat.le_refl _) t ht)
       have wG : ∀ g : G, ndsL g.args ≤ 1000000 → Pure Tryz.prog 17 [.sl 5 (bavs T1) (some (h.length + (M.length + 2))), g.atom] (subG T1 g).atom := fun g hg =>
        Yi (.cons (.sl rfl (fun y hy => by rw [bavs, List.mem_map] at hy; obtain ⟨t, _, rfl⟩ := hy; rfl) (.refl _)) (.cons (.refl _) .nil)) (Zp T1 (by omega) g hg)
       repeat (first | (((with_reducible refine Qa fun K E hK hE => ?_)); simp -implicitDefEqProofs only [Qe, Qf, OpW, aop, AS.ev, ↓reduceIte, aBin, aLen, goInt, un49, t9, t11, hlt, seval]) | (with_reducible (first | refine Qd fun K hK => ?_ | refine Qi ?_ | refine QC ?_ | refine Qb ?_ | refine Qw ?_ | refine Qy ?_)) | ((with_reducible refine hK _ ?_); clear hK) | (clear hK; (with_reducible refine hK _ ?_); clear hK) | (refine Qg rfl ?_; simp only [↓reduceIte, QpQ]))
       refine XQ 12 41 4 rfl ?_
       obtain ⟨I, hI⟩ : ∃ I : Nat → AS → Prop, I = fun m' s => ∃ (q : Nat), m' = N - q ∧ q ≤ N ∧ s.tm 2 = .ptr h.length 0 0 ∧ s.tm 5 = .sl 4 (avs (V ++ argsG S)) (some (h.length + 1)) ∧ s.tm 7 = sv ∧ s.tm 10 = .sl 5 (bavs T1) (some (h.length + (M.length + 2))) ∧
         s.tm 12 = .sl 4 (avs (Xd T1 (V.take q))) (some (h.length + (M.length + 3))) ∧ s.tm 13 = .i q ∧ s.h = h ++ ([.cells 26 4 [c.av], .grow 41 4 (V ++ argsG S).length] ++ (M ++ [.grow 52 5 T1.length, .grow 41 4 q])) := ⟨_, rfl⟩; refine QI I ?_ (m := N) ?_
       ·intro m' s hs; rw [hI] at hs; obtain ⟨tm, hp⟩ := s; dsimp only at hs; obtain ⟨q, rfl, hq, t2, t5, t7, t10, t12, t13, rfl⟩ := hs
        by_cases hlt : q < N
        ·have hqV : q < V.length := by omega
         have hqA : q < (V ++ argsG S).length := by rw [List.length_append]; omega
         have hltI : (q : Int) < c.vars := by omega
         have hg : (avs (V ++ argsG S))[q]? = some (V[q]).av := by rw [Q3 hqA, List.getElem_append_left hqV]
         have hc := wT V[q] (by have := XM hqV; omega)
         have hsl : (Xd T1 (V.take q)).length = q := by rw [YS, List.length_take]; omega
         have hm1 : q + 1 ≤ maxLen := by simp only [maxLen]; omega
         have hm2 : (q + 1) * 56 ≤ 140737488355328 := by omega
         repeat (first | ((first | (with_reducible (first | refine Qa fun K E hK hE => ?_ | refine Qk fun K E hK hE => ?_ | refine Qp hc ?_))); simp -implicitDefEqProofs only [Qe, Qf, OpW, QK, aop, AS.ev, AV.QoY, ↓reduceIte, Qm, QA, QB, Qt, aBin, QM, Xr, XS, ti3, YJ, ei29, ai29, ti41, zi41, t2, t5, t10, t12, t13, hltI, hqA, hg, hsl, hm1, hm2, Cs.cells, seval]) | (with_reducible (first | refine Qd fun K hK => ?_ | refine Qi ?_ | refine Qn ?_ | refine Qb ?_ | refine Qo ?_)) | ((with_reducible refine hK _ ?_); clear hK) | (refine Qg rfl ?_; simp only [↓reduceIte]))
         refine QV.mk (m' := N - (q + 1)) (by omega) ?_
         rw [hI]
         refine ⟨q + 1, rfl, hlt, t2, t5, t7, t10, ?_, ?_, ?_⟩
         ·simp only [upd, ↓reduceIte, Nat.reduceEqDiff]
          rw [YP hqV, Ye, Zi]
         ·simp only [upd, ↓reduceIte]
          rw [QP (by omega)]
         ·simp
        ·have hltI : ¬ (q : Int) < c.vars := by omega
         have hqV : V.take q = V := List.take_of_length_le (by omega)
         rw [hqV] at t12
         iterate 10 (try (first | (((with_reducible refine Qa fun K E hK hE => ?_)); simp -implicitDefEqProofs only [Qe, Qf, OpW, aop, AS.ev, ↓reduceIte, Qm, QA, QB, aBin, ti3, YJ, t2, t13, hltI, Cs.cells, seval]) | (with_reducible (first | refine Qd fun K hK => ?_ | refine QC ?_ | refine Qb ?_ | refine Qw ?_ | refine Qy ?_)) | ((with_reducible refine hK _ ?_); clear hK) | (clear hK; (with_reducible refine hK _ ?_); clear hK) | (refine Qg rfl ?_; simp only [↓reduceIte, QpQ])))
         refine Yb (fun s => (∀ g ∈ S, rightAtomB g = true) ∧ s.tm 2 = .ptr h.length 0 0 ∧ s.tm 7 = .sl 2 (vs G.atom (S.map (subG T1))) none ∧ s.tm 12 = .sl 4 (avs (Xd T1 V)) (some (h.length + (M.length + 3))) ∧ ∃ L, s.h = h ++ ([.cells 26 4 [c.av]] ++ L)) ?_ ?_
         ·clear hI wT wG cV cV'
          rintro ⟨tm, hp⟩ ⟨hall8, t2, t7, t12, L, rfl⟩
          dsimp only at t2 t7 t12
          have c1 := QeB c.vars c.b c.l c.failed H
          cases hb : Y9 c.vars c.b c.l with
          | true =>
           have e : ofC c.vars c.b c.l c.failed = (An.nil, 2) := by rw [ofC, if_pos hb]
           rw [e] at c1
           have z2 : ((2 : Int) == 2) = true := rfl
           repeat (first | ((first | (with_reducible (first | refine Qa fun K E hK hE => ?_ | refine Qp c1 ?_ | refine FunW.ret (FunW.call (ce _)) ?_))); simp -implicitDefEqProofs only [Qe, Qf, OpW, QK, aop, undef, AS.ev, AV.QoY, ↓reduceIte, Qm, QA, QB, QO, QH, aBin, Xo, ti3, ti4, ti23, ti24, YJ, YX, QaS, Qm0, ti32, zi32, t2, Cs.cells, An.cells, An.isAgg, seval]) | (with_reducible (first | refine Qd fun K hK => ?_ | refine Qj ?_ | refine Qq ?_)) | ((with_reducible refine hK _ ?_); clear hK) | (refine Qg rfl ?_; simp only [↓reduceIte]))
           simp only [QD, Ql, Qr, upd, ↓reduceIte, QpS, QpW]; first | refine Qc (htake _ _) (.keep (.v _)) ⟨rfl, rfl⟩ | refine Qc List.take_length (.keep (.v _)) ⟨rfl, rfl⟩
          | false =>
           have hb' := hb
           simp only [Y9, Bool.or_eq_false_iff, List.any_eq_false] at hb'
           have K : Turned N c.b c.l u W := ⟨⟨H, hn100, k3, fun x hx => by
            have := hb'.2.2.2 x hx
            rw [ZP] at this
            simpa using this, by rw [hSS]; exact hall8⟩, by omega, by rw [hVV, hSS]; exact hW, hall⟩
           have he2 := Qnd c.failed hb
           obtain ⟨q1, q2⟩ := K.of c.failed
           obtain ⟨KO, _, _⟩ := K.con
           rw [hVV, hSS, ← hT1] at q1 q2 KO
           have cc := QfR (Xd T1 V) (S.map (subG T1)) (fun t ht => by have := (KO.b t ht).1; omega) (by have := KO.l; omega) (by have := KO.s; omega)
           have cc' := Yi (args := [AV.sl 4 (avs (Xd T1 V)) (some (h.length + (M.length + 3))), AV.sl 2 (vs G.atom (S.map (subG T1))) none]) (.cons (.sl rfl (fun y hy => by rw [YO, List.mem_map] at hy; obtain ⟨t, _, rfl⟩ := hy; exact T.cells4 t) (.refl _)) (.cons (.refl _) .nil)) cc
           have c2 := QeB N (conB 0 (Xd T1 V)) (conL (S.map (subG T1))) c.failed KO.small
           obtain ⟨s1, s2⟩ := Qkb (n := c.vars) c.failed H
           rw [← hN] at q1 q2 c2
           rw [← q1] at c2
           generalize (ofC c.vars (conB 0 (Xd T1 V)) (conL (S.map (subG T1))) c.failed).1 = d at *
           generalize ofC c.vars c.b c.l c.failed = rr at *
           obtain ⟨a, e⟩ := rr
           dsimp only at *
           have cs := QlA a d (by omega) (by omega)
           rw [q2] at cs
           change Pure _ _ _ (.b true) at cs
           have z2 : (e == 2) = false := by simpa using he2
           have ee : (e == e) = true := by simp
           repeat (first | ((first | (with_reducible (first | refine Qa fun K E hK hE => ?_ | refine Qp c1 ?_ | refine Qp cc' ?_ | refine Qp c2 ?_ | refine Qp cs ?_ | refine FunW.ret (FunW.call (ce _)) ?_))); simp -implicitDefEqProofs only [Qe, Qf, OpW, QK, aop, undef, AS.ev, AV.QoY, ↓reduceIte, Qm, QA, QB, QO, QH, aBin, Xo, ti3, ti4, ti23, ti24, YJ, YX, QaS, Qm0, ti32, zi32, t2, t7, t12, z2, Cs.cells, An.cells, An.isAgg, seval]) | (with_reducible (first | refine Qd fun K hK => ?_ | refine Qj ?_ | refine Qn ?_ | refine Qb ?_)) | ((with_reducible refine hK _ ?_); clear hK) | (refine Qg rfl ?_; simp only [↓reduceIte, QpQ]))
           simp only [QD, Ql, Qr, upd, ↓reduceIte, QpS, QpW]; first | refine Qc (htake _ _) (.keep (.v _)) ⟨rfl, rfl⟩ | refine Qc List.take_length (.keep (.v _)) ⟨rfl, rfl⟩
         ·rcases hst with ⟨h0, hsv, hM⟩ | ⟨hkp, M', hsv, hM⟩
          ·have hS0 : S = [] := List.length_eq_zero_iff.1 (by omega)
           rw [hsv] at t7
           refine Qfs 7 t7 (w := .sl 2 [] none) (.sl rfl (by simp) .nil) ?_
           repeat (first | (((with_reducible refine Qa fun K E hK hE => ?_)); simp -implicitDefEqProofs only [Q4, Q2, Qf, OpW, aop, AS.ev, Q6, QeV, Nat.reduceLT]) | (with_reducible refine Qi ?_) | ((with_reducible refine hK _ ?_); clear hK))
           obtain ⟨I, hI⟩ : ∃ I : Nat → AS → Prop, I = fun m' s => s.tm 2 = .ptr h.length 0 0 ∧ s.tm 7 = .sl 2 [] none ∧ s.tm 12 = .sl 4 (avs (Xd T1 V)) (some (h.length + (M.length + 3))) ∧ s.tm 14 = .i 0 ∧ s.h = h ++ ([.cells 26 4 [c.av], .grow 41 4 (V ++ argsG S).length] ++ (M ++ [.grow 52 5 T1.length, .grow 41 4 q])) := ⟨_, rfl⟩; refine QI I ?_ (m := 0) ?_
           ·intro m' s hs; rw [hI] at hs; obtain ⟨tm, hp⟩ := s; dsimp only at hs; obtain ⟨t2, t7, t12, t14, rfl⟩ := hs
            have z0 : ¬ ((0 : Int) < (([] : List AV).length : Int)) := by simp
            have z00 : ¬ ((0 : Int) < 0) := by omega
            repeat (first | (((with_reducible refine Qa fun K E hK hE => ?_)); simp -implicitDefEqProofs only [Qe, Qf, OpW, aop, AS.ev, ↓reduceIte, aBin, aLen, goInt, un30, t7, t14, z00, seval]) | (with_reducible (first | refine Qd fun K hK => ?_ | refine QC ?_ | refine Qb ?_ | refine Qw ?_ | refine Qy ?_)) | ((with_reducible refine hK _ ?_); clear hK) | (refine Qg rfl ?_; simp only [↓reduceIte, QpQ]))
            exact ⟨(by rw [hS0]; intro g hg; cases hg), t2, (by rw [hS0]; exact t7), t12, _, rfl⟩
           ·rw [hI]
            exact ⟨t2, rfl, t12, rfl, rfl⟩
          ·have hkS : k = S.length := by omega
           rw [hsv, hkS] at t7
           rw [hM, hSk]
           repeat (first | (((with_reducible refine Qa fun K E hK hE => ?_)); simp -implicitDefEqProofs only [Qe, Qf, OpW, aop, AS.ev, Nat.reduceLT]) | (with_reducible refine Qi ?_) | ((with_reducible refine hK _ ?_); clear hK))
           obtain ⟨I, hI⟩ : ∃ I : Nat → AS → Prop, I = fun m' s => ∃ (r : Nat), m' = S.length - r ∧ r ≤ S.length ∧ (∀ g ∈ S.take r, rightAtomB g = true) ∧ s.tm 2 = .ptr h.length 0 0 ∧ s.tm 7 = .arr (h.length + (M'.length + 2)) 0 S.length ∧ s.tm 10 = .sl 5 (bavs T1) (some (h.length + (M.length + 2))) ∧ s.tm 12 = .sl 4 (avs (Xd T1 V)) (some (h.length + (M.length + 3))) ∧ s.tm 14 = .i r ∧
             s.h = h ++ ([.cells 26 4 [c.av], .grow 41 4 (V ++ argsG S).length] ++ (M' ++ ([.cells 45 2 (vs G.atom ((S.take r).map (subG T1) ++ S.drop r))] ++ [.grow 52 5 T1.length, .grow 41 4 q]))) := ⟨_, rfl⟩; refine QI I ?_ (m := S.length) ?_
           ·intro m' s hs; rw [hI] at hs; obtain ⟨tm, hp⟩ := s; dsimp only at hs; obtain ⟨r, rfl, hr, hrt, t2, t7, t10, t12, t14, rfl⟩ := hs
            by_cases hlt : r < S.length
            ·have hx := List.getElem_mem hlt
             have hgn := Qa3 hlt
             have cR := Qb2 S[r] (by omega) (hgo _ hx)
             have cG := wG S[r] (by omega)
             have hltI : (r : Int) < (S.length : Int) := by omega
             have hml : ((S.take r).map (subG T1)).length = r := by rw [List.length_map, List.length_take]; omega
             have hg : (vs G.atom ((S.take r).map (subG T1) ++ S.drop r))[r]? = some (S[r]).atom := by
              rw [vs, List.getElem?_map, List.getElem?_append_right (by omega), hml, Nat.sub_self, List.drop_eq_getElem_cons hlt]; rfl
             cases hra : rightAtomB S[r] with
             | false =>
              rw [hra] at cR
              repeat (first | ((first | (with_reducible (first | refine Qa fun K E hK hE => ?_ | refine Qp cR ?_ | refine FunW.ret (FunW.call (ce _)) ?_))); simp -implicitDefEqProofs only [Qe, Qf, OpW, QK, aop, AS.ev, ↓reduceIte, QA, QB, Qt, aBin, aLen, goInt, ei30, un30, ti45, t7, t14, hltI, hg, QT, Xa, seval]) | (with_reducible (first | refine Qd fun K hK => ?_ | refine Qi ?_ | refine Qj ?_ | refine Qn ?_ | refine Qb ?_ | refine Qq ?_ | refine Qs ?_)) | ((with_reducible refine hK _ ?_); clear hK) | (refine Qg rfl ?_; simp only [↓reduceIte]))
              simp only [QD, Ql, Qr, upd, ↓reduceIte, QpS, QpW]; first | refine Qc (htake _ _) (.keep (.v _)) ⟨rfl, rfl⟩ | refine Qc List.take_length (.keep (.v _)) ⟨rfl, rfl⟩
             | true =>
              rw [hra] at cR
              repeat (first | ((first | (with_reducible (first | refine Qa fun K E hK hE => ?_ | refine Qk fun K E hK hE => ?_ | refine Qp cR ?_ | refine Qp cG ?_))); simp -implicitDefEqProofs only [Qe, Qf, OpW, QK, aop, undef, AS.ev, AV.QoY, ↓reduceIte, QA, QB, QO, QH, Qt, aBin, aLen, goInt, ei30, un30, ti45, t7, t10, t14, hltI, hg, QT, Xa, seval]) | (with_reducible (first | refine Qd fun K hK => ?_ | refine Qi ?_ | refine Qn ?_ | refine Qb ?_ | refine Qo ?_)) | ((with_reducible refine hK _ ?_); clear hK) | (refine Qg rfl ?_; simp only [↓reduceIte, QpQ]))
              refine QV.mk (m' := S.length - (r + 1)) (by omega) ?_
              rw [hI]
              have hmix : (vs G.atom ((S.take r).map (subG T1) ++ S.drop r)).set r (subG T1 S[r]).atom = vs G.atom ((S.take (r + 1)).map (subG T1) ++ S.drop (r + 1)) := by
               rw [Qj2, List.set_append_right _ _ (by omega), hml, Nat.sub_self, List.drop_eq_getElem_cons hlt, List.set_cons_zero, List.take_succ_eq_append_getElem hlt, List.map_append, List.append_assoc]; rfl
              refine ⟨r + 1, rfl, hlt, ?_, t2, t7, t10, t12, ?_, ?_⟩
              ·intro g hg
               rw [List.take_succ_eq_append_getElem hlt] at hg
               rcases List.mem_append.1 hg with hg | hg
               ·exact hrt g hg
               ·rw [List.mem_singleton] at hg; subst hg; exact hra
              ·simp only [upd, ↓reduceIte]
               rw [QP (by omega)]
              ·rw [← hmix]
               simp
            ·have hre : r = S.length := by omega
             have hltI : ¬ (r : Int) < (S.length : Int) := by omega
             rw [hre, List.take_length, List.drop_length, List.append_nil]
             rw [hre, List.take_length] at hrt
             refine Qjd (h.length + (M'.length + 2)) 7 (ty := 45) (s := 2) (xs := vs G.atom (S.map (subG T1))) (by rw [hget]; simp) (r := .sl 2 (((vs G.atom (S.map (subG T1))).drop 0).take S.length) none) (by rw [t7]; exact Kill.arr (ty := 45) (s := 2) (xs := vs G.atom (S.map (subG T1))) (by rw [hget]; simp) (by rw [QR, List.length_map, Nat.zero_add]; exact Nat.le_refl _)) ?_
             rw [List.drop_zero, List.take_of_length_le (by rw [QR, List.length_map]; exact Nat.le_refl _)]
             repeat (first | (((with_reducible refine Qa fun K E hK hE => ?_)); simp -implicitDefEqProofs only [Qe, Qf, OpW, aop, AS.ev, ↓reduceIte, aBin, aLen, goInt, un30, t14, hltI, QR, List.length_map, seval]) | (with_reducible (first | refine Qd fun K hK => ?_ | refine QC ?_ | refine Qb ?_ | refine Qw ?_ | refine Qy ?_)) | ((with_reducible refine hK _ ?_); clear hK) | (refine Qg rfl ?_; simp only [↓reduceIte, QpQ]))
             exact ⟨hrt, t2, rfl, (by rw [hM, hSk] at t12; exact t12), _, rfl⟩
           ·rw [hI]
            exact ⟨0, by omega, Nat.zero_le _, by simp, t2, t7, t10, t12, rfl, by simp⟩
       ·rw [hI]
        exact ⟨0, by omega, Nat.zero_le _, t2, t5, t7, t10, by simp only [upd, ↓reduceIte]; simp [Xd, avs], rfl, by simp⟩
     ·rw [hI]
      exact ⟨0, by omega, Nat.zero_le _, by simp, t1, t2, t5, t7, rfl, by simp only [upd, ↓reduceIte]; simp [XG, bavs], rfl, by simp [XG]⟩
   ·rw [hI]
    exact ⟨0, _, [.dead], by omega, Nat.zero_le _, .inl ⟨rfl, rfl, rfl⟩, t1, t2, by simp only [upd, ↓reduceIte, Nat.reduceEqDiff]; rw [t5]; simp [argsG], by simp only [upd, ↓reduceIte]; simp, rfl, by simp [argsG, hlv]⟩
 ·rw [hI]
  exact ⟨0, by omega, Nat.zero_le _, t1, t2, by simp only [upd, ↓reduceIte]; simp [valsOf, nums, avs], rfl, by simp⟩
theorem QoG (c : Cs) (ho : c.ok) (u : Int) (h : AH) (hG : Xw h) : Xf Tryz.prog 4 [c.av, .i u] h fun o h' => o = .ret (.b true) ∧ h' = h := by
 cases hb : outB c u with
 | true => exact QkN c ho u hb h hG
 | false => exact QlU c ho u hb h hG
end Go.Proofs.YtniljpjjnmkoaaaGreatDoor.Ab

