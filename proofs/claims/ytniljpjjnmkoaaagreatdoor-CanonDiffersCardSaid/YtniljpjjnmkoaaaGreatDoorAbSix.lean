/-
  An abstract program logic, contracts of functions, and laws of terms and rules (part 6).
-/
import Derived.Test.YtniljpjjnmkoaaaGreatDoorAbFive
set_option linter.unusedVariables false
set_option linter.unusedSimpArgs false
set_option maxHeartbeats 4000000
set_option maxRecDepth 4000
namespace Go.Proofs.YtniljpjjnmkoaaaGreatDoor.Ab
open Go.Proofs
theorem Qam (n : Int) (c : Ct) (L : List Int) (h6 : L.length ≤ 6) : ∃ σ, σ.Perm (nums L.length) ∧ X1 n c L = ansG n c L σ := by
 have hm := Qeg h6
 cases hP : Xz 720 (nums L.length) with
 | nil => rw [hP] at hm; exact absurd ((hm (nums L.length)).2 (.refl _)) (by simp)
 | cons d D =>
  rw [hP] at hm
  have e1 : X1 n c L = YY cmpA (ansG n c L d) (D.map (ansG n c L)) := by rw [X1, hP]
  rcases List.mem_cons.1 (Zl cmpA (D.map (ansG n c L)) (ansG n c L d)) with h | h
  ·exact ⟨d, (hm d).1 (by simp), by rw [e1, h]⟩
  ·obtain ⟨σ, h1, h2⟩ := List.mem_map.1 h
   exact ⟨σ, (hm σ).1 (by simp [h1]), by rw [e1, h2]⟩
theorem Qhu {n : Int} {b : List (Int × T)} {l : List It} (failed : Bool) (H : SmallC b l) : ndsL (ofC n b l failed).1.vals ≤ 100000 ∧ gsN (ofC n b l failed).1.store ≤ 100000 := by
 have z : ∀ f, ndsL (An.mk f [] []).vals ≤ 100000 ∧ gsN (An.mk f [] []).store ≤ 100000 := fun f => ⟨Nat.zero_le _, Nat.zero_le _⟩
 unfold ofC
 split
 ·exact z _
 split
 ·exact z _
 split
 ·exact z _
 split
 ·exact z _
 ·rename_i h1 h2 h3 h4
  obtain ⟨σ, _, e⟩ := Qam n ⟨valsOf b n.toNat, storeOf b l⟩ (Q3 n (valsOf b n.toNat) (storeOf b l)) (by omega)
  have hn : n.toNat ≤ 100 := by
   simp only [Qaj, Bool.or_eq_true, decide_eq_true_eq, not_or] at h1
   omega
  have hV := H.vals n.toNat
  have hS := H.store
  rw [e]
  refine ⟨Nat.le_trans (QaM _ _) (by show ndsL (valsOf b n.toNat) ≤ _; omega), ?_⟩
  show gsN (Yq cmpG _) ≤ _
  rw [QiU (XJ cmpG _)]
  exact Nat.le_trans (QhC _ _) (by show gsN (storeOf b l) ≤ _; omega)
theorem Qan (n : Int) (b : List (Int × T)) (l : List It) (failed : Bool) (H : SmallC b l) :
  Pure Tryz.prog 11 [.i n, .sl 5 (bavs b) none, .sl 3 (vs It.av l) none, .v (.bool failed)] (.tup [(ofC n b l failed).1.av, .i (ofC n b l failed).2]) := by
 cases hb : Qaj n b l with
 | true => exact Qo5 n b l failed H hb
 | false =>
  cases failed with
  | true => exact QfX n b l H hb
  | false => exact QhV n b l H hb
end Go.Proofs.YtniljpjjnmkoaaaGreatDoor.Ab
set_option maxRecDepth 4000
namespace Go.Proofs.YtniljpjjnmkoaaaGreatDoor.Ab
open Go.Proofs
theorem Qfr (f : Int → Int) : ∀ l : List T, (maps f l).length = l.length
 | [] => rfl
 | t :: l => by rw [maps, List.length_cons, List.length_cons, Qfr f l]
mutual
theorem T.QpK : ∀ {t : T}, t.QpG = true → t.okC
 | .mk k i n l, h => by
  have ih := @Zs l
  rw [T.QpG] at h
  rw [T.okC]
  by_cases h0 : k = 0
  ·rw [if_pos h0] at h
   simp only [Bool.and_eq_true, List.isEmpty_iff] at h
   exact .inl ⟨.inl h0, YT h.1.2, h.2⟩
  rw [if_neg h0] at h
  by_cases h1 : k = 1
  ·rw [if_pos h1] at h
   simp only [Bool.and_eq_true, List.isEmpty_iff] at h
   exact .inl ⟨.inr h1, YT h.1.2, h.2⟩
  rw [if_neg h1] at h
  by_cases h2 : k = 2
  ·rw [if_pos h2] at h
   split at h
   ·cases h
   ·rename_i hi
    split at h
    ·cases h
    ·exact .inr ⟨h2, by omega, ih h⟩
  ·rw [if_neg h2] at h; cases h
theorem Zs : ∀ {l : List T}, Yf l = true → oksC l
 | [], _ => trivial
 | t :: l, h => by
  rw [Yf, Bool.and_eq_true] at h
  exact ⟨T.QpK h.1, Zs h.2⟩
end
mutual
theorem T.Qp1 (f : Int → Int) : ∀ {t : T}, t.QpG = true → (∀ v ∈ t.vars, 0 ≤ f v ∧ f v ≤ 1048576) → (t.map f).QpG = true
 | .mk k i n l, h, hv => by
  have ih := @Qb7 f l
  rw [T.QpG] at h
  rw [T.map]
  rw [T.vars] at hv
  by_cases h0 : k = 0
  ·rw [if_pos h0] at h
   rw [if_neg (by omega), if_neg (by omega), T.QpG, if_pos h0]; exact h
  rw [if_neg h0] at h
  by_cases h1 : k = 1
  ·rw [if_pos h1] at h hv
   rw [if_pos h1, T.QpG, if_neg h0, if_pos h1]
   have := hv i (by simp)
   simp only [Bool.and_eq_true] at h ⊢
   exact ⟨⟨by simpa using this, h.1.2⟩, h.2⟩
  rw [if_neg h1] at h hv
  by_cases h2 : k = 2
  ·rw [if_pos h2] at h hv
   rw [if_neg h1, if_pos h2, T.QpG, if_neg h0, if_neg h1, if_pos h2]
   have hl : (maps f l).length = l.length := Qfr f l
   rw [hl]
   split at h
   ·cases h
   ·rename_i hi
    rw [if_neg hi]
    split at h
    ·cases h
    ·rename_i hn
     rw [if_neg hn]
     exact ih h hv
  ·rw [if_neg h2] at h; cases h
theorem Qb7 (f : Int → Int) : ∀ {l : List T}, Yf l = true → (∀ v ∈ XS l, 0 ≤ f v ∧ f v ≤ 1048576) → Yf (maps f l) = true
 | [], _, _ => rfl
 | t :: l, h, hv => by
  rw [Yf, Bool.and_eq_true] at h
  rw [XS] at hv
  rw [maps, Yf, T.Qp1 f h.1 fun v hm => hv v (List.mem_append_left _ hm), Qb7 f h.2 fun v hm => hv v (List.mem_append_right _ hm)]; rfl
end
mutual
theorem T.size_map (f : Int → Int) : ∀ t : T, (t.map f).size = t.size ∧ (t.map f).dep = t.dep
 | .mk k i n l => by
  have ih := QaL f l
  rw [T.map]
  by_cases h1 : k = 1
  ·rw [if_pos h1]; simp only [T.size, T.dep, if_neg (show ¬ k = 2 by omega)]; exact ⟨trivial, trivial⟩
  rw [if_neg h1]
  by_cases h2 : k = 2
  ·rw [if_pos h2]; simp only [T.size, T.dep, if_pos h2]; rw [ih.1, ih.2]; exact ⟨rfl, rfl⟩
  ·rw [if_neg h2]; exact ⟨rfl, rfl⟩
theorem QaL (f : Int → Int) : ∀ l : List T, sizes (maps f l) = sizes l ∧ deps (maps f l) = deps l
 | [] => ⟨rfl, rfl⟩
 | t :: l => by
  have h1 := T.size_map f t
  have h2 := QaL f l
  simp only [maps, sizes, deps, h1.1, h1.2, h2.1, h2.2]; exact ⟨trivial, trivial⟩
end
theorem Ys {t : T} (h : t.runOk = true) : t.QpG = true := by
 rw [T.runOk, (T.QpL t 200 20).1, Bool.and_eq_true] at h; exact h.1
theorem Qkb {f : Int → Int} {t : T} (h : t.runOk = true) (hv : ∀ v ∈ t.vars, 0 ≤ f v ∧ f v ≤ 1048576) : (t.map f).runOk = true := by
 rw [T.runOk, (T.QpL _ 200 20).1, Bool.and_eq_true] at h ⊢
 rw [(T.size_map f t).1, (T.size_map f t).2]
 exact ⟨T.Qp1 f h.1 hv, h.2⟩
theorem XW {g : G} (h : rightAtomB g = true) : Yf g.args = true := by
 rw [rightAtomB, Bool.and_eq_true, Bool.and_eq_true, (Z4 g.args 200 20 (by omega) (by omega)).1, Bool.and_eq_true] at h
 exact h.2.2.1
theorem Qfj {f : Int → Int} {g : G} (h : rightAtomB g = true) (hv : ∀ v ∈ XS g.args, 0 ≤ f v ∧ f v ≤ 1048576) : rightAtomB (g.map f) = true := by
 rw [rightAtomB, Bool.and_eq_true, Bool.and_eq_true, (Z4 _ 200 20 (by omega) (by omega)).1, Bool.and_eq_true, decide_eq_true_eq, decide_eq_true_eq] at h ⊢
 refine ⟨h.1, ?_, Qb7 f h.2.2.1 hv, ?_⟩
 ·show (maps f g.args).length ≤ 6
  rw [Qfr]; exact h.2.1
 ·show ((sizes (maps f g.args) : Nat) : Int) ≤ 200 ∧ ((deps (maps f g.args) : Nat) : Int) ≤ 20
  rw [(QaL f _).1, (QaL f _).2]; exact h.2.2.2
theorem Qbi {g : G} (h : rightAtomB g = true) : ndsL g.args ≤ 200 := by
 have hf := XW h
 rw [rightAtomB, Bool.and_eq_true, Bool.and_eq_true, (Z4 g.args 200 20 (by omega) (by omega)).1, Bool.and_eq_true, decide_eq_true_eq, decide_eq_true_eq] at h
 have := QdC g.args hf
 omega
theorem QgI {t : T} {v : Int} : v ∈ Yo t ↔ v ∈ t.vars := by rw [Qhd, Qh8]; simp
theorem Qh3 {b : List (Int × T)} (h : rightS b = true) {x : Int × T} (hx : x ∈ b) {v : Int} (hv : v ∈ x.2.vars) : XZ b v = none := by
 rw [rightS, Bool.and_eq_true, Qck, List.all_eq_true] at h
 have h1 := h.2 x hx
 rw [List.all_eq_true] at h1
 have h2 := h1 v (QgI.2 hv)
 cases hb : XZ b v with
 | none => rfl
 | some t =>
  have := QeG b v
  rw [hb] at this
  rw [← this] at h2; cases h2
theorem Qbq {b : List (Int × T)} {v : Int} {t : T} (h : XZ b v = some t) : (v, t) ∈ b := by
 induction b with
 | nil => cases h
 | cons x b ih =>
  rw [XZ] at h
  by_cases e : x.1 = v
  ·rw [if_pos e] at h; cases h; subst e; exact List.mem_cons_self ..
  ·rw [if_neg e] at h; exact List.mem_cons_of_mem _ (ih h)
mutual
theorem T.QpO {b : List (Int × T)} (h : rightS b = true) : ∀ (t : T), ∀ v ∈ (t.subst b).vars, XZ b v = none
 | .mk k i n l, v, hv => by
  have ih := Qbd h l v
  rw [T.subst] at hv
  by_cases h1 : k = 1
  ·rw [if_pos h1] at hv
   cases hb : XZ b i with
   | none =>
    rw [hb] at hv
    simp only [T.vars, if_pos h1, List.mem_singleton] at hv
    rw [hv]; exact hb
   | some t =>
    rw [hb] at hv
    exact Qh3 h (Qbq hb) hv
  rw [if_neg h1] at hv
  by_cases h2 : k = 2
  ·rw [if_pos h2] at hv
   simp only [T.vars, if_neg h1, if_pos h2] at hv
   exact ih hv
  ·rw [if_neg h2] at hv
   simp only [T.vars, if_neg h1, if_neg h2, List.not_mem_nil] at hv
theorem Qbd {b : List (Int × T)} (h : rightS b = true) : ∀ (l : List T), ∀ v ∈ XS (XP b l), XZ b v = none
 | [], v, hv => by cases hv
 | t :: l, v, hv => by
  rw [XP, XS] at hv
  rcases List.mem_append.1 hv with hv | hv
  ·exact T.QpO h t v hv
  ·exact Qbd h l v hv
end
mutual
theorem T.Qqc {b : List (Int × T)} : ∀ (t : T), (∀ v ∈ t.vars, XZ b v = none) → t.subst b = t
 | .mk k i n l, hv => by
  have ih := @QcX b l
  rw [T.subst]
  rw [T.vars] at hv
  by_cases h1 : k = 1
  ·rw [if_pos h1] at hv ⊢
   rw [hv i (by simp)]
  rw [if_neg h1] at hv ⊢
  by_cases h2 : k = 2
  ·rw [if_pos h2] at hv ⊢
   rw [ih hv]
  ·rw [if_neg h2]
theorem QcX {b : List (Int × T)} : ∀ (l : List T), (∀ v ∈ XS l, XZ b v = none) → XP b l = l
 | [], _ => rfl
 | t :: l, hv => by
  rw [XS] at hv
  rw [XP, T.Qqc t fun v hm => hv v (List.mem_append_left _ hm), QcX l fun v hm => hv v (List.mem_append_right _ hm)]
end
theorem Qmf : ∀ {b : List (Int × T)} {p : Option Int}, ascF p b = true → ∀ x ∈ b, x.2.runOk = true
 | y :: b, p, h, x, hx => by
  simp only [ascF, Bool.and_eq_true] at h
  rcases List.mem_cons.1 hx with rfl | hx
  ·exact h.2.2.2.1
  ·exact Qmf h.2.2.2.2 x hx
theorem QhG {b : List (Int × T)} (h : rightS b = true) {v : Int} {t : T} (hb : XZ b v = some t) : t.runOk = true := by
 rw [rightS, Bool.and_eq_true] at h
 exact Qmf h.1 _ (Qbq hb)
theorem Qnq {v : Int} (h : 0 ≤ v ∧ v ≤ 1048576) : (vT v).runOk = true := by
 rw [T.runOk, (T.QpL _ 200 20).1, vT, T.QpG, if_neg (by decide), if_pos rfl]
 simp [h, Y6, T.size, T.dep]
end Go.Proofs.YtniljpjjnmkoaaaGreatDoor.Ab
set_option maxRecDepth 4000
namespace Go.Proofs.YtniljpjjnmkoaaaGreatDoor.Ab
open Go.Proofs
def conB : Nat → List T → List (Int × T)
 | _, [] => []
 | k, t :: l => (if cmpT t (vT k) = 0 then [] else [((k : Int), t)]) ++ conB (k + 1) l
theorem Qhw (t : T) : ∀ (l : List T) (k : Nat), conB k (l ++ [t]) = conB k l ++ (if cmpT t (vT ((k + l.length : Nat) : Int)) = 0 then [] else [(((k + l.length : Nat) : Int), t)])
 | [], k => by simp [conB]
 | x :: l, k => by
  rw [List.cons_append, conB, conB, Qhw t l (k + 1), List.append_assoc, List.length_cons, show k + 1 + l.length = k + (l.length + 1) by omega]
theorem Qa6 : ∀ (l : List T) (k : Nat), (conB k l).length ≤ l.length
 | [], _ => Nat.zero_le _
 | t :: l, k => by
  have := Qa6 l (k + 1)
  rw [conB, List.length_append, List.length_cons]
  split
  ·simp only [QqG]; omega
  ·simp only [QqF, QqG]; omega
theorem QcL : ∀ {l : List T} {k : Nat} {x : Int × T}, x ∈ conB k l → ∃ j, ∃ h : j < l.length, x = (((k + j : Nat) : Int), l[j])
 | t :: l, k, x, h => by
  rw [conB] at h
  rcases List.mem_append.1 h with h | h
  ·split at h
   ·cases h
   ·rw [List.mem_singleton] at h
    exact ⟨0, by simp, h⟩
  ·obtain ⟨j, hj, e⟩ := QcL h
   exact ⟨j + 1, by simp only [QqF]; omega, by rw [e, show k + 1 + j = k + (j + 1) by omega]; rfl⟩
theorem Qlw : ∀ {l : List T} {k j : Nat} (hj : j < l.length), cmpT l[j] (vT ((k + j : Nat) : Int)) ≠ 0 → XZ (conB k l) ((k + j : Nat) : Int) = some l[j]
 | t :: l, k, 0, hj, hc => by
  have hc' : ¬ cmpT t (vT (k : Int)) = 0 := hc
  rw [conB, if_neg hc']; simp [XZ]
 | t :: l, k, j + 1, hj, hc => by
  have e : k + (j + 1) = k + 1 + j := by omega
  have ih := @Qlw l (k + 1) j (by simpa using hj) (by rw [← e]; exact hc)
  rw [e, conB]
  split
  ·exact ih
  ·rw [List.cons_append, List.nil_append, XZ, if_neg (by simp only; omega)]; exact ih
theorem Qfz : ∀ {l : List T} {k : Nat} {v : Int}, (∀ j (hj : j < l.length), v = ((k + j : Nat) : Int) → cmpT l[j] (vT v) = 0) → XZ (conB k l) v = none
 | [], _, _, _ => rfl
 | t :: l, k, v, h => by
  have ih := @Qfz l (k + 1) v fun j hj e => h (j + 1) (by simp only [QqF]; omega) (by rw [e, show k + 1 + j = k + (j + 1) by omega])
  rw [conB]
  split
  ·exact ih
  ·rename_i hc
   rw [List.cons_append, List.nil_append, XZ, if_neg, ih]
   intro e
   have e : (k : Int) = v := e
   have := h 0 (by simp) (by omega)
   rw [← e] at this
   exact hc this
theorem QeU : ∀ {l : List T} {k : Nat} {p : Option Int}, (∀ q, p = some q → q < k) → k + l.length ≤ 1000 → (∀ t ∈ l, t.runOk = true) → ascF p (conB k l) = true
 | [], _, _, _, _, _ => rfl
 | t :: l, k, p, hp, hk, hr => by
  rw [List.length_cons] at hk
  have hr' : ∀ t ∈ l, t.runOk = true := fun x hx => hr x (by simp [hx])
  rw [conB]
  split
  ·exact QeU (fun q e => by have := hp q e; omega) (by omega) hr'
  ·have ih := @QeU l (k + 1) (some (k : Int)) (fun q e => by cases e; omega) (by omega) hr'
   have h0 := hr t (by simp)
   have h1 : ((k : Int) < 0) = False := by simp only [eq_iff_iff, iff_false]; omega
   have h2 : ((k : Int) > 1048576) = False := by simp only [eq_iff_iff, iff_false]; omega
   cases p with
   | none => simp [ascF, ih, h0, h1, h2]
   | some q =>
    have h3 : (q ≥ (k : Int)) = False := by have := hp q rfl; simp only [eq_iff_iff, iff_false]; omega
    simp [ascF, ih, h0, h1, h2]
    have := hp q rfl
    omega
def conL (atoms : List G) : List It := (List.range atoms.length).map fun m => ⟨3 * atoms.length - ((atoms.length - 1 - m : Nat) : Int), atoms.getD (atoms.length - 1 - m) ⟨0, ⟨#[]⟩, []⟩⟩
theorem QdA (atoms : List G) : (conL atoms).length = atoms.length := by simp [conL]
theorem Zg (atoms : List G) : (conL atoms).map (·.atom) = atoms.reverse := by
 refine List.ext_getElem (by simp [conL]) fun j h1 h2 => ?_
 simp only [conL, List.map_map, List.getElem_map, List.getElem_range, Function.comp, List.getElem_reverse]
 rw [List.getD_eq_getElem?_getD, List.getElem?_eq_getElem (by simp at h2; omega)]; rfl
theorem QjJ (l : List G) : XS (Xq l) = Qe1 l := by
 induction l with
 | nil => rfl
 | cons g l ih => rw [show Xq (g :: l) = g.args ++ Xq l from rfl, ZY, ih]; rfl
theorem Qa3 (n : Int) (vals : List T) (store : List G) (v : Int) : v ∈ Q3 n vals store ↔ v ∈ (Ct.mk vals store).vars ∧ n ≤ v := by
 rw [Q3, List.mem_filter, QkX, Qh8, ZY, QjJ, Ct.vars]
 simp only [List.not_mem_nil, false_or, Bool.not_eq_true', decide_eq_false_iff_not]
 exact and_congr Iff.rfl (by omega)
structure ConOk (N : Nat) (vals : List T) (store : List G) : Prop where
 n : N ≤ 100
 l : vals.length = N
 r : ∀ t ∈ vals, t.runOk = true
 g : ∀ x ∈ store, rightAtomB x = true ∧ x.op = 0
 f : ∀ v ∈ (Ct.mk vals store).vars, ∀ j (hj : j < vals.length), v = (j : Nat) → vals[j] = vT (j : Nat)
 s : store.length ≤ 7
 b : ∀ t ∈ vals, t.nds ≤ 50 ∧ t.ok
 o : ∀ x ∈ store, oks x.args
theorem ConOk.free {N : Nat} {vals : List T} {store : List G} (H : ConOk N vals store) {v : Int} (hv : v ∈ (Ct.mk vals store).vars) : XZ (conB 0 vals) v = none :=
 Qfz fun j hj e => by
  rw [Nat.zero_add] at e
  rw [H.f v hv j hj e, e, Qhe]
theorem ConOk.right {N : Nat} {vals : List T} {store : List G} (H : ConOk N vals store) : rightS (conB 0 vals) = true := by
 rw [rightS, QeU (fun q e => by cases e) (by have := H.n; have := H.l; omega) H.r, Bool.true_and, Qck, List.all_eq_true]
 intro x hx
 rw [List.all_eq_true]
 intro v hv
 obtain ⟨j, hj, e⟩ := QcL hx
 rw [e, QgI] at hv
 have := H.free (v := v) (by
  rw [Ct.vars, Zq]
  exact List.mem_append_left _ (List.mem_flatMap.2 ⟨_, List.getElem_mem hj, hv⟩))
 have e2 := QeG (conB 0 vals) v
 rw [this] at e2
 rw [← e2]; rfl
theorem ConOk.vals {N : Nat} {vals : List T} {store : List G} (H : ConOk N vals store) : valsOf (conB 0 vals) N = vals := by
 refine List.ext_getElem (by rw [X8, H.l]) fun j h1 h2 => ?_
 simp only [valsOf, nums, List.getElem_map, List.getElem_range]
 show (vT ((j : Nat) : Int)).subst (conB 0 vals) = vals[j]
 rw [vT, T.subst, if_pos rfl]
 by_cases hc : cmpT vals[j] (vT ((j : Nat) : Int)) = 0
 ·have e : vals[j] = vT ((j : Nat) : Int) := Qgt (T.QpK (Ys (H.r _ (List.getElem_mem h2)))) (.inl ⟨.inr rfl, rfl, rfl⟩) hc
  rw [Qfz fun i hi ei => by
   have : i = j := by omega
   subst this; exact hc]
  exact e.symm
 ·have := Qlw (l := vals) (k := 0) h2 (by rw [Nat.zero_add]; exact hc)
  rw [Nat.zero_add] at this
  rw [this]
theorem ConOk.store {N : Nat} {vals : List T} {store : List G} (H : ConOk N vals store) : storeOf (conB 0 vals) (conL store) = store.reverse := by
 have h1 : ∀ x ∈ conL store, x.atom ∈ store := fun x hx => by
  have : x.atom ∈ store.reverse := by rw [← Zg]; exact List.mem_map_of_mem hx
  simpa using this
 have h2 : ∀ x ∈ conL store, subG (conB 0 vals) x.atom = x.atom := fun x hx => by
  have hg := h1 x hx
  rw [subG, QcX _ fun v hv => H.free (by rw [Ct.vars]; exact List.mem_append_right _ (Qdx hg hv)), ← (H.g _ hg).2]
 rw [storeOf, List.map_congr_left h2, Zg]
theorem ConOk.small {N : Nat} {vals : List T} {store : List G} (H : ConOk N vals store) : SmallC (conB 0 vals) (conL store) := by
 have h1 : ∀ x ∈ conL store, x.atom ∈ store := fun x hx => by
  have : x.atom ∈ store.reverse := by rw [← Zg]; exact List.mem_map_of_mem hx
  simpa using this
 have hn := H.n
 have hl := H.l
 refine ⟨by have := Qa6 vals 0; omega, fun x hx => ?_, fun x hx => ?_, by rw [QdA]; exact H.s, fun x hx => ?_, fun x hx => H.o _ (h1 x hx)⟩
 ·obtain ⟨j, hj, e⟩ := QcL hx
  rw [e]; exact (H.b _ (List.getElem_mem hj)).1
 ·obtain ⟨j, hj, e⟩ := QcL hx
  rw [e]; exact ⟨by unfold i64; simp only; omega, (H.b _ (List.getElem_mem hj)).2⟩
 ·have := Qbi (H.g _ (h1 x hx)).1; omega
theorem ConOk.good {N : Nat} {vals : List T} {store : List G} (H : ConOk N vals store) : Qaj N (conB 0 vals) (conL store) = false := by
 have h1 : ∀ x ∈ conL store, x.atom ∈ store := fun x hx => by
  have : x.atom ∈ store.reverse := by rw [← Zg]; exact List.mem_map_of_mem hx
  simpa using this
 have hn := H.n
 have h2 : (conL store).any Z5 = false := by
  rw [List.any_eq_false]; intro x hx
  rw [Z5, (H.g _ (h1 x hx)).1]; decide
 rw [Qaj, H.right, h2, decide_eq_false (by omega), decide_eq_false (by omega)]; rfl
end Go.Proofs.YtniljpjjnmkoaaaGreatDoor.Ab
set_option maxRecDepth 4000
namespace Go.Proofs.YtniljpjjnmkoaaaGreatDoor.Ab
open Go.Proofs
mutual
theorem T.Qp6 (f : Int → Int) : ∀ t : T, (t.map f).nds = t.nds
 | .mk k i n l => by
  have ih := Qf2 f l
  rw [T.map]
  split
  ·rw [T.QpH, T.QpH]; rfl
  ·split
   ·rw [T.QpH, T.QpH]; simp only [T.args, ih]
   ·rfl
theorem Qf2 (f : Int → Int) : ∀ l : List T, ndsL (maps f l) = ndsL l
 | [] => rfl
 | t :: l => by rw [maps, ndsL, ndsL, T.Qp6 f t, Qf2 f l]
end
mutual
theorem T.Qqe {f : Int → Int} : ∀ {t : T}, t.ok → (∀ v ∈ t.vars, i64 (f v)) → (t.map f).ok
 | .mk k i n l, h, hv => by
  have ih := @Qfh f l
  rw [T.ok] at h
  rw [T.vars] at hv
  rw [T.map]
  by_cases h1 : k = 1
  ·rw [if_pos h1] at hv ⊢
   rw [T.ok]; exact ⟨h.1, hv i (by simp), h.2.2⟩
  rw [if_neg h1] at hv ⊢
  by_cases h2 : k = 2
  ·rw [if_pos h2] at hv ⊢
   rw [T.ok]; exact ⟨h.1, h.2.1, h.2.2.1, ih h.2.2.2 hv⟩
  ·rw [if_neg h2, T.ok]; exact h
theorem Qfh {f : Int → Int} : ∀ {l : List T}, oks l → (∀ v ∈ XS l, i64 (f v)) → oks (maps f l)
 | [], _, _ => trivial
 | t :: l, h, hv => by
  rw [oks] at h
  rw [XS] at hv
  exact ⟨T.Qqe h.1 fun v hm => hv v (List.mem_append_left _ hm), Qfh h.2 fun v hm => hv v (List.mem_append_right _ hm)⟩
end
theorem Qdf {x y : Int} (h : lexI x y = 0) : x = 0 ∧ y = 0 := by
 unfold lexI at h
 by_cases e : x = 0
 ·subst e; exact ⟨rfl, by simpa using h⟩
 ·simp [e] at h
mutual
theorem T.QpS : ∀ {t : T}, t.QpG = true → ∀ v ∈ t.vars, 0 ≤ v ∧ v ≤ 1048576
 | .mk k i n l, h, v, hv => by
  have ih := @QbQ l
  rw [T.QpG] at h
  rw [T.vars] at hv
  by_cases h0 : k = 0
  ·rw [if_neg (by omega), if_neg (by omega)] at hv; cases hv
  rw [if_neg h0] at h
  by_cases h1 : k = 1
  ·rw [if_pos h1] at h hv
   simp only [Bool.and_eq_true, decide_eq_true_eq] at h
   rw [List.mem_singleton] at hv
   rw [hv]; exact h.1.1
  rw [if_neg h1] at h hv
  by_cases h2 : k = 2
  ·rw [if_pos h2] at h hv
   split at h
   ·cases h
   ·split at h
    ·cases h
    ·exact ih h v hv
  ·rw [if_neg h2] at h; cases h
theorem QbQ : ∀ {l : List T}, Yf l = true → ∀ v ∈ XS l, 0 ≤ v ∧ v ≤ 1048576
 | [], _, v, hv => by cases hv
 | t :: l, h, v, hv => by
  rw [Yf, Bool.and_eq_true] at h
  rw [XS] at hv
  rcases List.mem_append.1 hv with hv | hv
  ·exact T.QpS h.1 v hv
  ·exact QbQ h.2 v hv
end
theorem QeL : ∀ {l m : List G}, (∀ g ∈ l, oksC g.args ∧ g.op = 0) → (∀ g ∈ m, oksC g.args ∧ g.op = 0) → Xv l m = 0 → l = m
 | [], [], _, _, _ => rfl
 | [], _ :: _, _, _, h => by simp [Xv] at h
 | _ :: _, [], _, _, h => by simp [Xv] at h
 | a :: l, b :: m, ha, hb, h => by
  rw [Xv] at h
  have h1 := Qdf h
  obtain ⟨a1, a2⟩ := ha a (by simp)
  obtain ⟨b1, b2⟩ := hb b (by simp)
  rw [QfW a1 b1 (by rw [a2, b2]) h1.1, QeL (fun g hg => ha g (by simp [hg])) (fun g hg => hb g (by simp [hg])) h1.2]
def Ct.okC (c : Ct) : Prop := oksC c.vals ∧ ∀ g ∈ c.store, oksC g.args ∧ g.op = 0
theorem Qgx {a b : Ct} (ha : a.okC) (hb : b.okC) (h : cmpA a b = 0) : a = b := by
 rw [cmpA] at h
 have h1 := Qdf h
 have e1 := QbE ha.1 hb.1 h1.1
 have e2 := QeL ha.2 hb.2 h1.2
 cases a; cases b; simp only at e1 e2; rw [e1, e2]
theorem Ct.Qp5 {c : Ct} (h : c.okC) (f : Int → Int) : (c.ans f).okC := by
 refine ⟨QaB f h.1, fun g hg => ?_⟩
 have hg' := (XJ cmpG _).mem_iff.1 hg
 obtain ⟨x, hx, rfl⟩ := List.mem_map.1 hg'
 exact ⟨QaB f (h.2 x hx).1, (h.2 x hx).2⟩
theorem QcR {c : Ct} (h : c.okC) (n : Int) (p : List Int) : ansM n c p = c.ans (toF n p) := by
 have e1 : ∀ l, oksC l → rens (toM n p) l = maps (toF n p) l := fun l hl => by
  rw [Qe9 _ hl]
  congr 1
  exact funext fun v => QiG n p v
 rw [ansM, Ct.ans, e1 _ h.1]
 congr 2
 refine List.map_congr_left fun g hg => ?_
 rw [G.ren, G.map, e1 _ (h.2 g hg).1, (h.2 g hg).2]
theorem QbD {n : Int} {c : Ct} {L : List Int} (hc : c.okC) (hn : L.Nodup) (h6 : L.length ≤ 6) : ∃ e E, ords L = e :: E ∧ X1 n c L = Qab n c e E := by
 have h0 := Qfx (n := n) (c := c) hn h6 (E := ords L) fun p => Qat
 cases hE : ords L with
 | nil => exact absurd (Qat.2 (List.Perm.refl L)) (by rw [hE]; simp)
 | cons e E =>
  refine ⟨e, E, rfl, ?_⟩
  rw [hE] at h0
  have e1 : Qi0 n c (e :: E) = Qab n c e E := by
   rw [Qi0, Qab, QcR hc, List.map_congr_left fun p _ => QcR hc n p]
  rw [e1] at h0
  obtain ⟨σ, h1, h2⟩ := Qam n c L h6
  obtain ⟨p, h3, h4⟩ := QeV hn h1
  obtain ⟨q, h5, h7⟩ := QeN n c e E
  have o1 : (X1 n c L).okC := by rw [h2, QbJ h3 h4, QcR hc]; exact Ct.Qp5 hc _
  have o2 : (Qab n c e E).okC := by rw [h7]; exact Ct.Qp5 hc _
  exact Qgx o1 o2 h0
theorem QjO {n : Int} {c : Ct} {L : List Int} (hc : c.okC) (hn : L.Nodup) (h6 : L.length ≤ 6) : ∃ p, p.Perm L ∧ X1 n c L = c.ans (toF n p) := by
 obtain ⟨σ, h1, h2⟩ := Qam n c L h6
 obtain ⟨p, h3, h4⟩ := QeV hn h1
 exact ⟨p, h3, by rw [h2, QbJ h3 h4, QcR hc]⟩
structure MainC (N : Nat) (b : List (Int × T)) (l : List It) : Prop where
 s : SmallC b l
 n : N ≤ 100
 r : rightS b = true
 a : ∀ x ∈ l, rightAtomB x.atom = true
 g : ∀ g ∈ storeOf b l, rightAtomB g = true
theorem MainC.Qqh {N : Nat} {b : List (Int × T)} {l : List It} (H : MainC N b l) : ∀ t ∈ valsOf b N, t.runOk = true := fun t ht => by
 obtain ⟨v, hv, rfl⟩ := List.mem_map.1 ht
 obtain ⟨j, hj, rfl⟩ := QaI.1 hv
 have hn := H.n
 rw [vT, T.subst, if_pos rfl]
 cases hb : XZ b (j : Nat) with
 | none => exact Qnq (by omega)
 | some x => exact QhG H.r hb
theorem Qex {b : List (Int × T)} {l : List It} : ∀ g ∈ storeOf b l, g.op = 0 := fun g hg => by
 obtain ⟨x, _, rfl⟩ := List.mem_map.1 hg; rfl
theorem QcJ : ∀ {l : List T}, (∀ t ∈ l, t.okC) → oksC l
 | [], _ => trivial
 | t :: l, h => ⟨h t (by simp), QcJ fun x hx => h x (by simp [hx])⟩
theorem MainC.okC {N : Nat} {b : List (Int × T)} {l : List It} (H : MainC N b l) : (Ct.mk (valsOf b N) (storeOf b l)).okC :=
 ⟨QcJ fun t ht => T.QpK (Ys (H.Qqh t ht)), fun g hg => ⟨Zs (XW (H.g g hg)), Qex g hg⟩⟩
theorem MainC.free {N : Nat} {b : List (Int × T)} {l : List It} (H : MainC N b l) {v : Int} (hv : v ∈ (Ct.mk (valsOf b N) (storeOf b l)).vars) : XZ b v = none := by
 rw [Ct.vars] at hv
 rcases List.mem_append.1 hv with hv | hv
 ·rw [Zq] at hv
  obtain ⟨t, ht, hv⟩ := List.mem_flatMap.1 hv
  obtain ⟨w, _, rfl⟩ := List.mem_map.1 ht
  exact T.QpO H.r _ v hv
 ·obtain ⟨g, hg, hv⟩ := List.mem_flatMap.1 hv
  obtain ⟨x, _, rfl⟩ := List.mem_map.1 hg
  exact Qbd H.r _ v hv
theorem MainC.Qqp {N : Nat} {b : List (Int × T)} {l : List It} (H : MainC N b l) {v : Int} (hv : v ∈ (Ct.mk (valsOf b N) (storeOf b l)).vars) : 0 ≤ v ∧ v ≤ 1048576 := by
 rw [Ct.vars] at hv
 rcases List.mem_append.1 hv with hv | hv
 ·rw [Zq] at hv
  obtain ⟨t, ht, hv⟩ := List.mem_flatMap.1 hv
  exact T.QpS (Ys (H.Qqh t ht)) v hv
 ·obtain ⟨g, hg, hv⟩ := List.mem_flatMap.1 hv
  exact QbQ (XW (H.g g hg)) v hv
theorem MainC.con {N : Nat} {b : List (Int × T)} {l : List It} (H : MainC N b l) {h : Int → Int} {vals : List T} {store : List G} (hv : vals = maps h (valsOf b N)) (hs : store.Perm ((storeOf b l).map (G.map h)))
  (hf : ∀ v ∈ (Ct.mk (valsOf b N) (storeOf b l)).vars, v < N → h v = v) (hb : ∀ v ∈ (Ct.mk (valsOf b N) (storeOf b l)).vars, (N : Int) ≤ v → (N : Int) ≤ h v) (hr : ∀ v ∈ (Ct.mk (valsOf b N) (storeOf b l)).vars, 0 ≤ h v ∧ h v ≤ 1048576) : ConOk N vals store := by
 have hlen : vals.length = N := by rw [hv, Qfr, X8]
 have mv : ∀ t ∈ vals, ∃ u ∈ valsOf b N, t = u.map h := fun t ht => by
  have e : ∀ l : List T, maps h l = l.map (T.map h) := fun l => by
   induction l with
   | nil => rfl
   | cons x l ih => rw [maps, ih]; rfl
  rw [hv, e] at ht
  obtain ⟨u, hu, rfl⟩ := List.mem_map.1 ht
  exact ⟨u, hu, rfl⟩
 have uv : ∀ u ∈ valsOf b N, ∀ v ∈ u.vars, v ∈ (Ct.mk (valsOf b N) (storeOf b l)).vars := fun u hu v hm => by
  rw [Ct.vars, Zq]; exact List.mem_append_left _ (List.mem_flatMap.2 ⟨u, hu, hm⟩)
 have ms : ∀ x ∈ store, ∃ u ∈ storeOf b l, x = u.map h := fun x hx => by
  obtain ⟨u, hu, e⟩ := List.mem_map.1 (hs.mem_iff.1 hx)
  exact ⟨u, hu, e.symm⟩
 have us : ∀ u ∈ storeOf b l, ∀ v ∈ XS u.args, v ∈ (Ct.mk (valsOf b N) (storeOf b l)).vars := fun u hu v hm => by
  rw [Ct.vars]; exact List.mem_append_right _ (Qdx hu hm)
 refine ⟨H.n, hlen, fun t ht => ?_, fun x hx => ?_, fun v hm j hj e => ?_, ?_, fun t ht => ?_, fun x hx => ?_⟩
 ·obtain ⟨u, hu, rfl⟩ := mv t ht
  exact Qkb (H.Qqh u hu) fun v hm => hr v (uv u hu v hm)
 ·obtain ⟨u, hu, rfl⟩ := ms x hx
  exact ⟨Qfj (H.g u hu) fun v hm => hr v (us u hu v hm), Qex u hu⟩
 ·obtain ⟨w, hw, e2⟩ := (Qcu (c := ⟨valsOf b N, storeOf b l⟩) (c' := ⟨vals, store⟩) hv hs v).1 hm
  have hjN : j < N := by omega
  have hwN : w < N := by
   rcases Int.lt_or_le w N with q | q
   ·exact q
   ·have := hb w hw q; omega
  have ew : w = (j : Nat) := by rw [← e, ← e2, hf w hw hwN]
  have hfree := H.free hw
  have e3 : (valsOf b N)[j]'(by rw [X8]; exact hjN) = vT (j : Nat) := by
   simp only [valsOf, nums, List.getElem_map, List.getElem_range]
   show (vT ((j : Nat) : Int)).subst b = _
   rw [vT, T.subst, if_pos rfl, ← ew, hfree]
  have e4 : vals[j] = ((valsOf b N)[j]'(by rw [X8]; exact hjN)).map h := by
   have e : ∀ l : List T, maps h l = l.map (T.map h) := fun l => by
    induction l with
    | nil => rfl
    | cons x l ih => rw [maps, ih]; rfl
   subst hv
   simp only [e, List.getElem_map]
  rw [e4, e3, vT, T.map, if_pos rfl, ← ew, hf w hw hwN]
 ·rw [hs.length_eq, List.length_map, Yz]; exact H.s.l1
 ·obtain ⟨u, hu, rfl⟩ := mv t ht
  have h1 : u.nds ≤ 50 ∧ u.ok := by
   obtain ⟨v, hv, rfl⟩ := List.mem_map.1 hu
   obtain ⟨j, hj, rfl⟩ := QaI.1 hv
   have hn := H.n
   rw [vT, T.subst, if_pos rfl]
   cases hb : XZ b (j : Nat) with
   | none => exact ⟨(by omega : 1 ≤ 50), by unfold i64; omega, by unfold i64; omega, by decide, trivial⟩
   | some x => exact ⟨H.s.b2 _ (Qbq hb), (H.s.b3 _ (Qbq hb)).2⟩
  rw [T.Qp6]
  exact ⟨h1.1, T.Qqe h1.2 fun v hm => by have := hr v (uv u hu v hm); unfold i64; omega⟩
 ·obtain ⟨u, hu, rfl⟩ := ms x hx
  exact Qfh (H.s.Qp9 u hu) fun v hm => by have := hr v (us u hu v hm); unfold i64; omega
end Go.Proofs.YtniljpjjnmkoaaaGreatDoor.Ab
set_option maxRecDepth 4000
namespace Go.Proofs.YtniljpjjnmkoaaaGreatDoor.Ab
open Go.Proofs
theorem QiC {N : Nat} {b : List (Int × T)} {l : List It} (hb : Qaj N b l = false) (hg : ∀ g ∈ storeOf b l, rightAtomB g = true) (h6 : (Q3 N (valsOf b N) (storeOf b l)).length ≤ 6) :
  ofC N b l false = (⟨false, (X1 N ⟨valsOf b N, storeOf b l⟩ (Q3 N (valsOf b N) (storeOf b l))).vals, (X1 N ⟨valsOf b N, storeOf b l⟩ (Q3 N (valsOf b N) (storeOf b l))).store⟩, 0) := by
 have h1 : ¬ (storeOf b l).any (fun g => !rightAtomB g) = true := by
  rw [List.any_eq_true]; rintro ⟨g, h2, h3⟩; rw [hg g h2] at h3; cases h3
 rw [ofC, if_neg (by rw [hb]; decide), if_neg (by decide), Int.toNat_natCast, if_neg h1, if_neg (by omega)]
theorem ConOk.main {N : Nat} {vals : List T} {store : List G} (H : ConOk N vals store) : MainC N (conB 0 vals) (conL store) := by
 have h1 : ∀ x ∈ conL store, x.atom ∈ store := fun x hx => by
  have : x.atom ∈ store.reverse := by rw [← Zg]; exact List.mem_map_of_mem hx
  simpa using this
 refine ⟨H.small, H.n, H.right, fun x hx => (H.g _ (h1 x hx)).1, fun g hg => ?_⟩
 rw [H.store] at hg
 exact (H.g g (List.mem_reverse.1 hg)).1
theorem ConOk.others {N : Nat} {vals : List T} {store : List G} (H : ConOk N vals store) {c : Ct} {h : Int → Int} {L : List Int} (hv : vals = maps h c.vals) (hs : store.Perm (c.store.map (G.map h)))
  (hi : ∀ v ∈ c.vars, ∀ w ∈ c.vars, h v = h w → v = w) (hf : ∀ v ∈ c.vars, v < N → h v = v) (hb : ∀ v ∈ c.vars, (N : Int) ≤ v → (N : Int) ≤ h v)
  (hn : L.Nodup) (hL : ∀ v, v ∈ L ↔ v ∈ c.vars ∧ (N : Int) ≤ v) : (Q3 N (valsOf (conB 0 vals) N) (storeOf (conB 0 vals) (conL store))).length = L.length := by
 rw [H.vals, H.store]
 have := QaX (n := N) (c := c) (c' := ⟨vals, store.reverse⟩) (h := h) (L := L) (L' := Q3 N vals store.reverse) hv ((List.reverse_perm store).trans hs) hi hf hb hn (YM _ _ _) hL fun v => Qa3 _ _ _ v
 have := this.length_eq
 rw [List.length_map] at this
 exact this.symm
theorem QnI {N : Nat} {p : List Int} {v : Int} (hN : N ≤ 100) (hp : p.length ≤ 6) (hv : 0 ≤ v ∧ v ≤ 1048576) : 0 ≤ toF N p v ∧ toF N p v ≤ 1048576 := by
 unfold toF
 split
 ·rename_i h
  have := Qdc h
  omega
 ·exact hv
theorem QeB {N : Nat} {b : List (Int × T)} {l : List It} (H : MainC N b l) {A : Ct} (hA : A = X1 N ⟨valsOf b N, storeOf b l⟩ (Q3 N (valsOf b N) (storeOf b l))) (h6 : (Q3 N (valsOf b N) (storeOf b l)).length ≤ 6) :
  ConOk N A.vals A.store ∧ ∃ B : Ct, ofC N (conB 0 A.vals) (conL A.store) false = (⟨false, B.vals, B.store⟩, 0) ∧ cmpA A B = 0 := by
 have hL : ∀ v, v ∈ Q3 N (valsOf b N) (storeOf b l) ↔ v ∈ (Ct.mk (valsOf b N) (storeOf b l)).vars ∧ (N : Int) ≤ v := Qa3 _ _ _
 have hn := YM N (valsOf b N) (storeOf b l)
 have hc := H.okC
 obtain ⟨p, hp, e⟩ := QjO (n := N) hc hn h6
 obtain ⟨e1, E1, hE1, eA⟩ := QbD (n := N) hc hn h6
 rw [← hA] at e eA
 obtain ⟨i1, i2, i3⟩ := Qkl hL hp
 have hs : A.store.Perm ((storeOf b l).map (G.map (toF N p))) := by rw [e]; exact XJ _ _
 have hv : A.vals = maps (toF N p) (valsOf b N) := by rw [e]; rfl
 have hpl := hp.length_eq
 have K := H.con hv hs i2 i3 fun v hm => QnI H.n (by omega) (H.Qqp hm)
 have hO := K.others (c := ⟨valsOf b N, storeOf b l⟩) hv hs i1 i2 i3 hn hL
 have K2 := K.main
 refine ⟨K, _, QiC K.good K2.g (by omega), ?_⟩
 have hc2 := K2.okC
 have hn2 := YM N (valsOf (conB 0 A.vals) N) (storeOf (conB 0 A.vals) (conL A.store))
 obtain ⟨e2, E2, hE2, eB⟩ := QbD (n := N) hc2 hn2 (by omega)
 rw [eB]
 have hm2 : ∀ v, v ∈ Q3 N (valsOf (conB 0 A.vals) N) (storeOf (conB 0 A.vals) (conL A.store)) ↔ v ∈ (Ct.mk (valsOf (conB 0 A.vals) N) (storeOf (conB 0 A.vals) (conL A.store))).vars ∧ (N : Int) ≤ v := Qa3 _ _ _
 have := Qg7 (n := N) (c := ⟨valsOf b N, storeOf b l⟩) (c' := ⟨valsOf (conB 0 A.vals) N, storeOf (conB 0 A.vals) (conL A.store)⟩) (e := e1) (E := E1) (e' := e2) (E' := E2) hn hn2 hL hm2
  (fun p => by rw [← hE1]; exact Qat) (fun p => by rw [← hE2]; exact Qat) hc.2 (by rw [← eA]; exact K.vals) (by rw [← eA]; show (storeOf _ _).Perm _; rw [K.store]; exact List.reverse_perm _)
 rw [← eA] at this
 exact this
theorem Qnh (n : Nat) (x : It) : ∀ a ∈ x.av.cells, Below n a := by
 intro a ha
 rw [It.cells] at ha
 simp only [List.mem_cons, List.not_mem_nil, or_false] at ha
 rcases ha with rfl | rfl | rfl
 ·exact .v _
 ·exact .v _
 ·exact X0 _ _
theorem QfA (vals : List T) (atoms : List G) (hv : ∀ t ∈ vals, t.nds ≤ 1000000) (hvl : vals.length ≤ 1000) (hal : atoms.length ≤ 1000) :
  Pure Tryz.prog 12 [.sl 4 (avs vals) none, .sl 2 (vs G.atom atoms) none] (.tup [.sl 5 (bavs (conB 0 vals)) none, .sl 3 (vs It.av (conL atoms)) none]) := by
 intro h
 refine Qe Tryz.func12 rfl Tryz.call12 Tryz.ntmps12 (congrArg Array.toList Tryz.results12) (by simp) ?_
 repeat (first | (((with_reducible refine Qa fun K E hK hE => ?_)); simp -implicitDefEqProofs only [Qg, Qh, OpW, aop, AS.ev, Nat.reduceLT]) | (with_reducible (first | refine Qc fun K hK => ?_ | refine Qi ?_)) | ((with_reducible refine hK _ ?_); clear hK))
 refine YS 6 52 5 rfl ?_
 refine YS 7 48 3 rfl ?_
 obtain ⟨I, hI⟩ : ∃ I : Nat → AS → Prop, I = fun m' s => ∃ (k : Nat) (M : AH), m' = vals.length - k ∧ k ≤ vals.length ∧ s.tm 0 = .sl 4 (avs vals) none ∧ s.tm 1 = .sl 2 (vs G.atom atoms) none ∧ s.tm 6 = .sl 5 (bavs (conB 0 (vals.take k))) (some h.length) ∧ s.tm 7 = .sl 3 [] (some (h.length + 1)) ∧ s.tm 8 = .i k ∧
   s.h = h ++ ([.grow 52 5 (conB 0 (vals.take k)).length, .grow 48 3 0] ++ M) := ⟨_, rfl⟩; refine QJ I ?_ (m := vals.length) ?_
 ·intro m' s hs; rw [hI] at hs; obtain ⟨tm, hp⟩ := s; dsimp only at hs; obtain ⟨k, M, rfl, hk, t0, t1, t6, t7, t8, rfl⟩ := hs
  by_cases hlt : k < vals.length
  ·have cv : Pure Tryz.prog 16 [.i (k : Int)] (vT k).av := Qe6 k
   have cs := Qhq vals[k] (vT k) (hv _ (List.getElem_mem hlt))
   have hst : conB 0 (vals.take (k + 1)) = conB 0 (vals.take k) ++ (if cmpT vals[k] (vT (k : Int)) = 0 then [] else [((k : Int), vals[k])]) := by
    rw [List.take_succ_eq_append_getElem hlt, Qhw, Nat.zero_add, List.length_take, Nat.min_eq_left (by omega)]
   have hlen : (conB 0 (vals.take k)).length ≤ k := by have := Qa6 (vals.take k) 0; rw [List.length_take] at this; omega
   have hm1 : (conB 0 (vals.take k)).length + 1 ≤ maxLen := by simp only [maxLen]; omega
   have hm2 : ((conB 0 (vals.take k)).length + 1) * 64 ≤ 140737488355328 := by omega
   by_cases hc : cmpT vals[k] (vT (k : Int)) = 0
   ·have hcb : (cmpT vals[k] (vT (k : Int)) == 0) = true := by simpa using hc
    rw [if_pos hc, List.append_nil] at hst
    rw [hcb] at cs
    repeat (first | ((first | (with_reducible (first | refine Qa fun K E hK hE => ?_ | refine Qm fun K E hK hE => ?_ | refine Qu cv ?_ | refine Qu cs ?_)) | (refine Qt (id := 6) [(0, 0), (1, 0), (2, 0), (3, 0), (4, 0), (5, 1), (6, 1), (7, 0)] mixed (by kernel_rfl) fun K hK => ?_)); simp -implicitDefEqProofs only [Qg, Qh, OpW, aop, AS.ev, ↓reduceIte, QC, QD, Qz, aBin, aLen, goInt, ei29, un29, ti41, t0, t8, hlt, Xc hlt, seval]) | (with_reducible (first | refine Qc fun K hK => ?_ | refine Qi ?_ | refine Qk ?_ | refine Qb ?_ | refine Qn ?_)) | ((with_reducible refine hK _ ?_); clear hK) | (refine Qf rfl ?_; simp only [↓reduceIte, Qqw]))
    refine Q1.mk (m' := vals.length - (k + 1)) (by omega) ?_
    rw [hI]
    refine ⟨k + 1, M, rfl, hlt, t0, t1, by rw [hst]; exact t6, t7, ?_, by rw [hst]; rfl⟩
    simp only [upd, ↓reduceIte]
    rw [QP (by omega)]
   ·have hcb : (cmpT vals[k] (vT (k : Int)) == 0) = false := by simpa using hc
    rw [if_neg hc] at hst
    rw [hcb] at cs
    repeat (first | ((first | (with_reducible (first | refine Qa fun K E hK hE => ?_ | refine Qm fun K E hK hE => ?_ | refine Qu cv ?_ | refine Qu cs ?_)) | (refine Qt (id := 6) [(0, 0), (1, 0), (2, 0), (3, 0), (4, 0), (5, 1), (6, 1), (7, 0)] mixed (by kernel_rfl) fun K hK => ?_)); simp -implicitDefEqProofs only [Qg, Qh, OpW, aop, AS.ev, AV.QpF, ↓reduceIte, QC, QD, Qz, aBin, Xy, XR, QK, aLen, XA, X6, goInt, ei23, ai23, ei29, un29, ti41, zi52, sp52, t0, t6, t8, hlt, Xc hlt, QS, hm1, hm2, seval]) | (with_reducible (first | refine Qc fun K hK => ?_ | refine Qi ?_ | refine Qk ?_ | refine Qb ?_ | refine Qn ?_)) | ((with_reducible refine hK _ ?_); clear hK) | (refine Qf rfl ?_; simp only [↓reduceIte]))
    refine Q1.mk (m' := vals.length - (k + 1)) (by omega) ?_
    rw [hI]
    refine ⟨k + 1, M, rfl, hlt, t0, t1, ?_, t7, ?_, ?_⟩
    ·simp only [upd, ↓reduceIte, Nat.reduceEqDiff]
     rw [hst, Qic]; rfl
    ·simp only [upd, ↓reduceIte]
     rw [QP (by omega)]
    ·rw [hst, List.length_append]; simp
  ·have hkl : k = vals.length := by omega
   subst hkl
   rw [List.take_length] at t6 ⊢
   have w1 : IntKind.i64.wrap ((atoms.length : Int) - 1) = (atoms.length : Int) - 1 := Xp (by omega)
   have hcl : (conL atoms).length = atoms.length := QdA atoms
   repeat (first | (((with_reducible refine Qa fun K E hK hE => ?_)); simp -implicitDefEqProofs only [Qg, Qh, OpW, aop, AS.ev, ↓reduceIte, aBin, aLen, goInt, un29, un30, t0, t1, t8, hlt, QN, w1, seval]) | (with_reducible (first | refine Qc fun K hK => ?_ | refine Qi ?_ | refine QB ?_ | refine Qb ?_ | refine Qw ?_ | refine Qv ?_)) | ((with_reducible refine hK _ ?_); clear hK) | (clear hK; (with_reducible refine hK _ ?_); clear hK) | (refine Qf rfl ?_; simp only [↓reduceIte, Qqw]))
   obtain ⟨I, hI⟩ : ∃ I : Nat → AS → Prop, I = fun m' s => ∃ (k : Nat) (M : AH), m' = atoms.length - k ∧ k ≤ atoms.length ∧ s.tm 1 = .sl 2 (vs G.atom atoms) none ∧ s.tm 6 = .sl 5 (bavs (conB 0 vals)) (some h.length) ∧ s.tm 7 = .sl 3 (vs It.av ((conL atoms).take k)) (some (h.length + 1)) ∧ s.tm 9 = .i ((atoms.length : Int) - 1 - k) ∧
     s.h = h ++ ([.grow 52 5 (conB 0 vals).length, .grow 48 3 k] ++ M) := ⟨_, rfl⟩; refine QJ I ?_ (m := atoms.length) ?_
   ·intro m' s hs; rw [hI] at hs; obtain ⟨tm, hp⟩ := s; dsimp only at hs; obtain ⟨k, M, rfl, hk, t1, t6, t7, t9, rfl⟩ := hs
    by_cases hlt : k < atoms.length
    ·have ei : ((atoms.length : Int) - 1 - k) = ((atoms.length - 1 - k : Nat) : Int) := by omega
     rw [ei] at t9
     have hi : atoms.length - 1 - k < atoms.length := by omega
     have hge : (((atoms.length - 1 - k : Nat) : Int)) ≥ 0 := by omega
     have hkc : k < (conL atoms).length := by omega
     have hx : (conL atoms)[k] = ⟨3 * atoms.length - ((atoms.length - 1 - k : Nat) : Int), atoms[atoms.length - 1 - k]⟩ := by
      simp only [conL, List.getElem_map, List.getElem_range]
      rw [List.getD_eq_getElem?_getD, List.getElem?_eq_getElem hi]; rfl
     have w2 : IntKind.i64.wrap (3 * (atoms.length : Int)) = 3 * (atoms.length : Int) := Xp (by omega)
     have w3 : IntKind.i64.wrap (3 * (atoms.length : Int) - ((atoms.length - 1 - k : Nat) : Int)) = 3 * (atoms.length : Int) - ((atoms.length - 1 - k : Nat) : Int) := Xp (by omega)
     have hsl : ((conL atoms).take k).length = k := by rw [List.length_take]; omega
     have hm1 : k + 1 ≤ maxLen := by simp only [maxLen]; omega
     have hm2 : (k + 1) * 48 ≤ 140737488355328 := by omega
     repeat (first | ((first | (with_reducible (first | refine Qa fun K E hK hE => ?_ | refine Qm fun K E hK hE => ?_))); simp -implicitDefEqProofs only [Qg, Qh, OpW, aop, AS.ev, AV.QpF, ↓reduceIte, QC, QD, Qz, aBin, Xy, XR, QK, aLen, XA, X6, goInt, ei24, ai24, ei30, un30, ti45, zi48, sp48, t1, t7, t9, hge, hi, QN, XN G.atom hi, QQ, Q6, w2, w3, hsl, hm1, hm2, seval]) | (with_reducible (first | refine Qc fun K hK => ?_ | refine Qi ?_ | refine Qk ?_ | refine Qb ?_ | refine Qn ?_)) | ((with_reducible refine hK _ ?_); clear hK) | (refine Qf rfl ?_; simp only [↓reduceIte]))
     refine Q1.mk (m' := atoms.length - (k + 1)) (by omega) ?_
     rw [hI]
     refine ⟨k + 1, M, rfl, hlt, t1, t6, ?_, ?_, rfl⟩
     ·simp only [upd, ↓reduceIte, Nat.reduceEqDiff]
      rw [List.take_succ_eq_append_getElem hkc, QgQ, hx]; rfl
     ·simp only [upd, ↓reduceIte]
      rw [Xp (by omega)]
      congr 2
      omega
    ·have hkl : k = atoms.length := by omega
     subst hkl
     rw [List.take_of_length_le (by omega)] at t7
     have hng : ¬ (((atoms.length : Int) - 1 - (atoms.length : Nat)) ≥ 0) := by omega
     repeat (first | (((with_reducible refine Qa fun K E hK hE => ?_)); simp -implicitDefEqProofs only [Qg, Qh, OpW, aop, AS.ev, ↓reduceIte, aBin, t6, t7, t9, hng, seval]) | (with_reducible (first | refine Qc fun K hK => ?_ | refine Qj ?_ | refine QB ?_ | refine Qb ?_ | refine Qw ?_ | refine Qv ?_)) | ((with_reducible refine hK _ ?_); clear hK) | (clear hK; (with_reducible refine hK _ ?_); clear hK) | (refine Qf rfl ?_; simp only [↓reduceIte, Qqw]))
     simp -implicitDefEqProofs only [Qcv, ↓reduceIte, Nat.reduceEqDiff, Qqu, Qqx, Qqy, List.mapM_cons, List.mapM_nil, Option.pure_def, Option.bind_eq_bind, QE, Ql, Qr, QqC]
     exact Qd (r' := .tup [.sl 5 (bavs (conB 0 vals)) none, .sl 3 (vs It.av (conL atoms)) none]) (htake _ _) (.tup rfl (Xa (.tok (Qkp _ _)) (Ya (.tok (QhX It.av _ (Qnh _) _))))) ⟨rfl, rfl⟩
   ·rw [hI]
    exact ⟨0, M, by omega, Nat.zero_le _, t1, t6, t7, by simp, rfl⟩
 ·rw [hI]
  exact ⟨0, [], by omega, Nat.zero_le _, rfl, rfl, rfl, by simp only [upd, ↓reduceIte]; simp, rfl, by simp [conB]⟩
end Go.Proofs.YtniljpjjnmkoaaaGreatDoor.Ab
set_option maxRecDepth 4000
namespace Go.Proofs.YtniljpjjnmkoaaaGreatDoor.Ab
open Go.Proofs
theorem Qgs (n : Int) (b : List (Int × T)) (l : List It) (failed : Bool) (H : SmallC b l) :
  (∃ e : Int, e ≠ 0 ∧ ofC n b l failed = (An.nil, e)) ∨ (failed = true ∧ ofC n b l failed = (⟨true, [], []⟩, 0)) ∨
  (failed = false ∧ ∃ N : Nat, n = N ∧ MainC N b l ∧ (Q3 N (valsOf b N) (storeOf b l)).length ≤ 6 ∧
   ofC n b l failed = (⟨false, (X1 N ⟨valsOf b N, storeOf b l⟩ (Q3 N (valsOf b N) (storeOf b l))).vals, (X1 N ⟨valsOf b N, storeOf b l⟩ (Q3 N (valsOf b N) (storeOf b l))).store⟩, 0)) := by
 cases hb : Qaj n b l with
 | true => exact .inl ⟨2, by decide, by rw [ofC, if_pos hb]⟩
 | false =>
  cases failed with
  | true => exact .inr (.inl ⟨rfl, by rw [ofC, if_neg (by rw [hb]; decide), if_pos rfl]⟩)
  | false =>
   have hb' := hb
   simp only [Qaj, Bool.or_eq_false_iff, decide_eq_false_iff_not, Bool.not_eq_false', List.any_eq_false] at hb'
   obtain ⟨k1, k2, k3, k4⟩ := hb'
   obtain ⟨N, rfl⟩ : ∃ N : Nat, n = (N : Int) := ⟨n.toNat, by omega⟩
   by_cases h1 : (storeOf b l).any (fun g => !rightAtomB g) = true
   ·exact .inl ⟨6, by decide, by rw [ofC, if_neg (by rw [hb]; decide), if_neg (by decide), if_pos h1]⟩
   ·have hg : ∀ g ∈ storeOf b l, rightAtomB g = true := fun g hg => by
     cases hr : rightAtomB g with
     | true => rfl
     | false => exact absurd (List.any_eq_true.2 ⟨g, hg, by rw [hr]; rfl⟩) h1
    by_cases h6 : 6 < (Q3 N (valsOf b N) (storeOf b l)).length
    ·exact .inl ⟨15, by decide, by rw [ofC, if_neg (by rw [hb]; decide), if_neg (by decide), if_neg h1, if_pos (by rw [Int.toNat_natCast]; exact h6)]⟩
    ·refine .inr (.inr ⟨rfl, N, rfl, ⟨H, by omega, k3, fun x hx => ?_, hg⟩, by omega, QiC hb hg (by omega)⟩)
     have := k4 x hx
     rw [Z5] at this
     simpa using this
theorem QpE (c : Cs) (ho : c.ok) (h : AH) (hG : Xj h) : Q4 Tryz.prog 3 [c.av] h fun o h' => o = .ret (.b true) ∧ h' = h := by
 have cl := QbN c ho
 have ce := fun L => Z1 (h ++ L) (hG.onto L)
 cases kb : c.big with
 | true =>
  rw [kb] at cl
  refine Qe Tryz.func3 rfl Tryz.call3 Tryz.ntmps3 (congrArg Array.toList Tryz.results3) (by simp) ?_
  repeat (first | ((first | (with_reducible (first | refine Qa fun K E hK hE => ?_ | refine Qq cl ?_ | refine FunW.ret (FunW.call (ce _)) ?_))); simp -implicitDefEqProofs only [Qg, Qh, OpW, QI, aop, undef, AS.ev, Qy, AV.QpF, ↓reduceIte, Nat.reduceAdd, Nat.reduceLT, Nat.reduceEqDiff, QC, QD, ti26, Cs.cells, Cs.isAgg]) | (with_reducible (first | refine Qc fun K hK => ?_ | refine Qj ?_ | refine Qo ?_)) | ((with_reducible refine hK _ ?_); clear hK) | (refine Qf rfl ?_; simp only [↓reduceIte]))
  simp only [QE, Ql, Qr, upd, ↓reduceIte, Qqy, QqC]; first | refine Qd (htake _ _) (.keep (.v _)) ⟨rfl, rfl⟩ | refine Qd List.take_length (.keep (.v _)) ⟨rfl, rfl⟩
 | false =>
  rw [kb] at cl
  obtain ⟨hv, H⟩ := Cs.small ho kb
  have c1 := Qan c.vars c.b c.l c.failed H
  rcases Qgs c.vars c.b c.l c.failed H with ⟨e, he, hr⟩ | ⟨hf, hr⟩ | ⟨hf, N, hn, K, h6, hr⟩
  ·rw [hr] at c1
   have b1 : (e != 0) = true := by simpa using he
   have b2 : (e == 0) = false := by simpa using he
   refine Qe Tryz.func3 rfl Tryz.call3 Tryz.ntmps3 (congrArg Array.toList Tryz.results3) (by simp) ?_
   iterate 13 (try (first | ((first | (with_reducible (first | refine Qa fun K E hK hE => ?_ | refine Qq cl ?_ | refine Qq c1 ?_))); simp -implicitDefEqProofs only [Qg, Qh, OpW, QI, aop, undef, AS.ev, Qy, AV.QpF, ↓reduceIte, Nat.reduceAdd, Nat.reduceLT, Nat.reduceEqDiff, Qp, QC, QD, QL, QF, Xd, ti3, ti4, ti23, ti24, ti26, Qak, ZP, ZQ, QcZ, ti32, zi32, Cs.cells, Cs.isAgg, An.cells, An.isAgg, An.nil, avs, Qet]) | (with_reducible (first | refine Qc fun K hK => ?_ | refine Qk ?_ | refine Qb ?_)) | ((with_reducible refine hK _ ?_); clear hK) | (refine Qf rfl ?_; simp only [↓reduceIte, Qqw])))
   obtain ⟨I, hI⟩ : ∃ I : AS → Prop, I = fun s => s.tm 1 = .ptr h.length 0 0 ∧ s.tm 3 = .ptr (h.length + 1) 0 0 ∧ s.tm 4 = .i e ∧ s.h = h ++ [.cells 26 4 [c.av], .cells 32 3 [An.nil.av]] := ⟨_, rfl⟩; refine Qbp I ?_ ?_
   ·intro s hs; rw [hI] at hs; obtain ⟨tm, hp⟩ := s; dsimp only at hs; obtain ⟨t1, t3, t4, rfl⟩ := hs
    clear cl c1
    have hbb : ∀ p q xo yo, pv Tryz.prog (do eqGuard .eql 4 xo yo (.bool p) (.bool q); binOp .eql 4 (.bool p) (.bool q)) = some (.bool (p == q)) := by intro p q xo yo; cases p <;> cases q <;> rfl
    have bf : (false == false) = true := rfl
    have wz : IntKind.i64.wrap (0 + 0) = 0 := by decide
    have zz : ((0 : Int) == 0) = true := rfl
    have z1 : ((List.length ([] : List AV) : Nat) : Int) = 0 := rfl
    iterate 4 (try (first | (((with_reducible refine Qa fun K E hK hE => ?_)); simp -implicitDefEqProofs only [Qg, Qh, OpW, aop, undef, AS.ev, ↓reduceIte, Nat.reduceLT, Nat.reduceEqDiff, aBin, t4, b1]) | (with_reducible refine Qc fun K hK => ?_) | ((with_reducible refine hK _ ?_); clear hK) | (refine Qf rfl ?_; simp only [↓reduceIte])))
    (with_reducible refine Qa fun K E hK hE => ?_)
    (try simp only [Qq3]); refine XD 9 (fun K1 hK1 => ?_); simp -implicitDefEqProofs only [Qg, Qh, OpW, aop, undef, AS.ev, ↓reduceIte, Nat.reduceLT, Nat.reduceEqDiff, Qp, QC, QD, aBin, ti4, Z8, t3, t4, b2, hbb, An.cells, An.nil, avs, Qet]; refine hK1 _ ?_; clear hK1
    (try simp only [QqB, QqJ]); refine XD 10 (fun K1 hK1 => ?_); simp -implicitDefEqProofs only [Qg, Qh, OpW, aop, AS.ev, ↓reduceIte, Nat.reduceLT, Nat.reduceEqDiff, Qp, QC, QD, aBin, aLen, goInt, ti29, un29, ti30, un30, ZN, YF, t3, wz, An.cells, avs, Qet]; refine hK1 _ ?_; clear hK1
    (try simp only [QqB, QqJ])
    simp -implicitDefEqProofs only [Qg, Qh, OpW, aop, AS.ev, ↓reduceIte, Nat.reduceLT]
    repeat (first | (((with_reducible refine FunW.ret (FunW.call (ce _)) ?_)); simp -implicitDefEqProofs only [XI, XT, Qh, OpW, QI, aop, AS.ev, XH, Qcv, ↓reduceIte, Nat.reduceLT, Nat.reduceEqDiff]) | (with_reducible (first | refine Qj ?_ | refine Qo ?_)) | ((with_reducible refine hK _ ?_); clear hK))
    simp only [QE, Ql, Qr, upd, ↓reduceIte, Qqy, QqC]; first | refine Qd (htake _ _) (.keep (.v _)) ⟨rfl, rfl⟩ | refine Qd List.take_length (.keep (.v _)) ⟨rfl, rfl⟩
   ·rw [hI]
    exact ⟨rfl, rfl, rfl, rfl⟩
  ·rw [hr] at c1
   have zz : ((0 : Int) == 0) = true := rfl
   have zn : ((0 : Int) != 0) = false := rfl
   refine Qe Tryz.func3 rfl Tryz.call3 Tryz.ntmps3 (congrArg Array.toList Tryz.results3) (by simp) ?_
   iterate 13 (try (first | ((first | (with_reducible (first | refine Qa fun K E hK hE => ?_ | refine Qq cl ?_ | refine Qq c1 ?_))); simp -implicitDefEqProofs only [Qg, Qh, OpW, QI, aop, undef, AS.ev, Qy, AV.QpF, ↓reduceIte, Nat.reduceAdd, Nat.reduceLT, Nat.reduceEqDiff, Qp, QC, QD, QL, QF, Xd, ti3, ti4, ti23, ti24, ti26, Qak, ZP, ZQ, QcZ, ti32, zi32, Cs.cells, Cs.isAgg, An.cells, An.isAgg, avs, Qet]) | (with_reducible (first | refine Qc fun K hK => ?_ | refine Qk ?_ | refine Qb ?_)) | ((with_reducible refine hK _ ?_); clear hK) | (refine Qf rfl ?_; simp only [↓reduceIte, Qqw])))
   obtain ⟨I, hI⟩ : ∃ I : AS → Prop, I = fun s => s.tm 1 = .ptr h.length 0 0 ∧ s.tm 3 = .ptr (h.length + 1) 0 0 ∧ s.tm 4 = .i 0 ∧ s.h = h ++ [.cells 26 4 [c.av], .cells 32 3 [(An.mk true [] []).av]] := ⟨_, rfl⟩; refine Qbp I ?_ ?_
   ·intro s hs; rw [hI] at hs; obtain ⟨tm, hp⟩ := s; dsimp only at hs; obtain ⟨t1, t3, t4, rfl⟩ := hs
    clear cl c1
    have hbb : ∀ p q xo yo, pv Tryz.prog (do eqGuard .eql 4 xo yo (.bool p) (.bool q); binOp .eql 4 (.bool p) (.bool q)) = some (.bool (p == q)) := by intro p q xo yo; cases p <;> cases q <;> rfl
    have bf : (true == true) = true := rfl
    have wz : IntKind.i64.wrap (0 + 0) = 0 := by decide
    iterate 4 (try (first | (((with_reducible refine Qa fun K E hK hE => ?_)); simp -implicitDefEqProofs only [Qg, Qh, OpW, aop, AS.ev, ↓reduceIte, Nat.reduceLT, Nat.reduceEqDiff, Qp, QC, QD, aBin, ti4, Z8, t3, t4, An.cells]) | (with_reducible refine Qc fun K hK => ?_) | ((with_reducible refine hK _ ?_); clear hK) | (refine Qf rfl ?_; simp only [↓reduceIte])))
    (with_reducible refine Qa fun K E hK hE => ?_)
    (try simp only [Qq3]); refine XD 9 (fun K1 hK1 => ?_); simp -implicitDefEqProofs only [Qg, Qh, OpW, aop, AS.ev, ↓reduceIte, Nat.reduceLT, Nat.reduceEqDiff, Qp, QC, QD, aBin, ti4, QcZ, Z8, t1, t3, t4, hf, hbb, Cs.cells, An.cells, avs, Qet]; refine hK1 _ ?_; clear hK1
    (try simp only [QqB, QqJ]); refine XD 10 (fun K1 hK1 => ?_); simp -implicitDefEqProofs only [Qg, Qh, OpW, aop, AS.ev, ↓reduceIte, Nat.reduceLT, Nat.reduceEqDiff, Qp, QC, QD, aBin, aLen, goInt, ti29, un29, ti30, un30, ZN, YF, t3, wz, An.cells, avs, Qet]; refine hK1 _ ?_; clear hK1
    (try simp only [QqB, QqJ])
    simp -implicitDefEqProofs only [Qg, Qh, OpW, aop, AS.ev, ↓reduceIte, Nat.reduceLT]
    repeat (first | (((with_reducible refine FunW.ret (FunW.call (ce _)) ?_)); simp -implicitDefEqProofs only [XI, XT, Qh, OpW, QI, aop, AS.ev, XH, Qcv, ↓reduceIte, Nat.reduceLT, Nat.reduceEqDiff]) | (with_reducible (first | refine Qj ?_ | refine Qo ?_)) | ((with_reducible refine hK _ ?_); clear hK))
    simp only [QE, Ql, Qr, upd, ↓reduceIte, Qqy, QqC]; first | refine Qd (htake _ _) (.keep (.v _)) ⟨rfl, rfl⟩ | refine Qd List.take_length (.keep (.v _)) ⟨rfl, rfl⟩
   ·rw [hI]
    exact ⟨rfl, rfl, rfl, rfl⟩
  ·rw [hr] at c1
   obtain ⟨A, hA⟩ : ∃ A, A = X1 N ⟨valsOf c.b N, storeOf c.b c.l⟩ (Q3 N (valsOf c.b N) (storeOf c.b c.l)) := ⟨_, rfl⟩
   rw [← hA] at c1 hr
   obtain ⟨KO, B, hB, hAB⟩ := QeB K hA h6
   have hsm := Qhu (n := c.vars) c.failed H
   rw [hr] at hsm
   dsimp only at hsm
   have cc := QfA A.vals A.store (fun t ht => by have := (KO.b t ht).1; omega) (by have := KO.n; have := KO.l; omega) (by have := KO.s; omega)
   have c2 := Qan N (conB 0 A.vals) (conL A.store) false KO.small
   rw [hB] at c2
   have cs := Qhk ⟨false, A.vals, A.store⟩ ⟨false, B.vals, B.store⟩ (by simp only; omega) (by simp only; omega)
   have ecs : Zn ⟨false, A.vals, A.store⟩ ⟨false, B.vals, B.store⟩ = 0 := hAB
   rw [ecs] at cs
   change Pure _ _ _ (.b true) at cs
   have l1 : ((A.vals.length : Int) != c.vars) = false := by rw [KO.l, hn]; simp
   have l2 : ((A.store.length : Int) != (c.l.length : Int)) = false := by
    have : A.store.length = c.l.length := by
     obtain ⟨σ, _, e⟩ := Qam N ⟨valsOf c.b N, storeOf c.b c.l⟩ (Q3 N (valsOf c.b N) (storeOf c.b c.l)) h6
     rw [hA, e]
     show (Yq cmpG _).length = _
     rw [Y5, List.length_map, Yz]
    rw [this]; simp
   have zz : ((0 : Int) == 0) = true := rfl
   have zn : ((0 : Int) != 0) = false := rfl
   rw [← hn] at c2
   refine Qe Tryz.func3 rfl Tryz.call3 Tryz.ntmps3 (congrArg Array.toList Tryz.results3) (by simp) ?_
   iterate 13 (try (first | ((first | (with_reducible (first | refine Qa fun K E hK hE => ?_ | refine Qq cl ?_ | refine Qq c1 ?_))); simp -implicitDefEqProofs only [Qg, Qh, OpW, QI, aop, undef, AS.ev, Qy, AV.QpF, ↓reduceIte, Nat.reduceAdd, Nat.reduceLT, Nat.reduceEqDiff, Qp, QC, QD, QL, QF, Xd, ti3, ti4, ti23, ti24, ti26, Qak, ZP, ZQ, QcZ, ti32, zi32, Cs.cells, Cs.isAgg, An.cells, An.isAgg]) | (with_reducible (first | refine Qc fun K hK => ?_ | refine Qk ?_ | refine Qb ?_)) | ((with_reducible refine hK _ ?_); clear hK) | (refine Qf rfl ?_; simp only [↓reduceIte, Qqw])))
   obtain ⟨I, hI⟩ : ∃ I : AS → Prop, I = fun s => s.tm 1 = .ptr h.length 0 0 ∧ s.tm 3 = .ptr (h.length + 1) 0 0 ∧ s.tm 4 = .i 0 ∧ s.h = h ++ [.cells 26 4 [c.av], .cells 32 3 [(An.mk false A.vals A.store).av]] := ⟨_, rfl⟩; refine Qbp I ?_ ?_
   ·intro s hs; rw [hI] at hs; obtain ⟨tm, hp⟩ := s; dsimp only at hs; obtain ⟨t1, t3, t4, rfl⟩ := hs
    clear cl c1
    repeat (first | ((first | (with_reducible (first | refine Qa fun K E hK hE => ?_ | refine Qq cc ?_ | refine Qq c2 ?_ | refine Qq cs ?_ | refine FunW.ret (FunW.call (ce _)) ?_))); simp -implicitDefEqProofs only [Qg, Qh, OpW, QI, aop, undef, AS.ev, AV.QpF, ↓reduceIte, Nat.reduceAdd, Nat.reduceLT, Nat.reduceEqDiff, Qp, QC, QD, QL, QF, aBin, Xd, aLen, goInt, ti3, ti4, ti24, un24, Qak, ZQ, ti29, un29, ti30, un30, ti32, Z8, ZN, YF, zi32, t1, t3, t4, l1, l2, QN, Cs.cells, An.cells, An.isAgg]) | (with_reducible (first | refine Qc fun K hK => ?_ | refine Qj ?_ | refine Qk ?_ | refine Qb ?_)) | ((with_reducible refine hK _ ?_); clear hK) | (refine Qf rfl ?_; simp only [↓reduceIte, Qqw]))
    simp only [QE, Ql, Qr, upd, ↓reduceIte, Qqy, QqC]; first | refine Qd (htake _ _) (.keep (.v _)) ⟨rfl, rfl⟩ | refine Qd List.take_length (.keep (.v _)) ⟨rfl, rfl⟩
   ·rw [hI]
    exact ⟨rfl, rfl, rfl, rfl⟩
end Go.Proofs.YtniljpjjnmkoaaaGreatDoor.Ab
set_option maxRecDepth 4000
namespace Go.Proofs.YtniljpjjnmkoaaaGreatDoor.Ab
open Go.Proofs
inductive Res (α : Type) where
 | ok (a : α) (r : List UInt8)
 | err (e : Int)
def mkB (l : List UInt8) : ByteArray := ⟨l.toArray⟩
def isD (c : UInt8) : Bool := decide (48 ≤ c.toNat ∧ c.toNat ≤ 57)
def isL (c : UInt8) : Bool := decide (97 ≤ c.toNat ∧ c.toNat ≤ 122 ∨ 65 ≤ c.toNat ∧ c.toNat ≤ 90 ∨ c.toNat = 95)
def isW (c : UInt8) : Bool := isL c || isD c
def skipSp : List UInt8 → List UInt8
 | [] => []
 | c :: r => if c.toNat = 32 then skipSp r else c :: r
def headD : List UInt8 → Bool
 | c :: _ => isD c
 | [] => false
def Qky (l : List UInt8) : Nat := l.foldl (fun n c => 10 * n + (c.toNat - 48)) 0
def pInt (s : Bool) (sign : Int) : List UInt8 → Res T
 | [] => .err 16
 | c :: r => if c.toNat = 48 then (if sign < 0 ∨ (s && headD r) = true then .err 16 else .ok (.mk 0 0 eB []) r) else
  if Qky ((c :: r).takeWhile isD) ≤ 2147483648 then .ok (.mk 0 (sign * Qky ((c :: r).takeWhile isD)) eB []) ((c :: r).dropWhile isD) else .err 5
def varV (s : ByteArray) : Option Nat := match Lib.decFrom 0 (s.data.toList.drop 1) with
 | some k => if k ≤ 1048576 ∧ s.data.toList = (vOf (decN k)).data.toList then some k else none
 | none => none
def QgX (ex : List UInt8 → Res T) : Nat → List T → List UInt8 → Res (List T)
 | 0, _, _ => .err 16
 | m + 1, l, r => match skipSp r with
  | [] => .err 16
  | c :: r2 => if c.toNat = 44 then (match ex r2 with
    | .ok t r3 => QgX ex m (l ++ [t]) r3
    | .err e => .err e) else if c.toNat = 41 then .ok l r2 else .err 16
def QhM (ex : List UInt8 → Res T) (r : List UInt8) : Res (List T) := match skipSp r with
 | [] => .ok [] []
 | c :: r2 => if c.toNat = 40 then (match ex r2 with
   | .ok t r3 => QgX ex (r3.length + 1) [t] r3
   | .err e => .err e) else .ok [] (c :: r2)
def QkE (ex : List UInt8 → Res T) (r : List UInt8) : Res T :=
 if (r.headD 0).toNat < 97 then (match varV (mkB (r.takeWhile isW)) with
  | some k => .ok (.mk 1 k eB []) (r.dropWhile isW)
  | none => .err 7) else
 if XY (mkB (r.takeWhile isW)) = true then (match QhM ex (r.dropWhile isW) with
  | .ok l r2 => .ok (.mk 2 0 (mkB (r.takeWhile isW)) l) r2
  | .err e => .err e) else .err 7
def YQ (s : Bool) (ex : List UInt8 → Res T) (r : List UInt8) : Res T := match skipSp r with
 | [] => .err 16
 | c :: r2 =>
  if isD c = true then pInt s 1 (c :: r2) else
  if c.toNat = 45 then (if headD r2 = true then pInt s (-1) r2 else .err 16) else
  if isL c = true then QkE ex (c :: r2) else
  if c.toNat = 40 then (match ex r2 with
   | .ok t r3 => (match skipSp r3 with
    | d :: r4 => if d.toNat = 41 then .ok t r4 else .err 16
    | [] => .err 16)
   | .err e => .err e) else .err 16
def YZ (op : List UInt8 → Res T) (st : Int) : Nat → T → List UInt8 → Res T
 | 0, t, r => .ok t (skipSp r)
 | m + 1, t, r => match skipSp r with
  | [] => .ok t []
  | c :: r2 => if ofB (mkB [c]) = st then (match op r2 with
    | .ok u r3 => YZ op st m (.mk 2 0 (mkB [c]) [t, u]) r3
    | .err e => .err e) else .ok t (c :: r2)
def chain (op : List UInt8 → Res T) (st : Int) (r : List UInt8) : Res T := match op r with
 | .ok t r2 => YZ op st (r2.length + 1) t r2
 | .err e => .err e
def Qa7 (s : Bool) : Nat → List UInt8 → Res T
 | 0 => fun _ => .err 16
 | n + 1 => chain (chain (YQ s (Qa7 s n)) 2) 1
end Go.Proofs.YtniljpjjnmkoaaaGreatDoor.Ab
set_option maxRecDepth 4000
namespace Go.Proofs.YtniljpjjnmkoaaaGreatDoor.Ab
open Go.Proofs
theorem YO : ∀ r : List UInt8, (skipSp r).length ≤ r.length
 | [] => Nat.le_refl _
 | c :: r => by
  rw [skipSp]; split
  ·have := YO r; simp only [QqF]; omega
  ·exact Nat.le_refl _
theorem ZK {r r2 : List UInt8} {c : UInt8} (h : skipSp r = c :: r2) : r2.length < r.length := by
 have := YO r
 rw [h, List.length_cons] at this; omega
def Eats {α : Type} (k : Nat) (f : List UInt8 → Res α) : Prop := ∀ r a r2, f r = .ok a r2 → r2.length + k ≤ r.length
theorem Qf3 (p : UInt8 → Bool) (r : List UInt8) : (r.dropWhile p).length ≤ r.length := (List.dropWhile_sublist p).length_le
theorem QiS (s : Bool) (sign : Int) {r r2 : List UInt8} {a : T} (h : pInt s sign r = .ok a r2) (hd : headD r = true) : r2.length + 1 ≤ r.length := by
 cases r with
 | nil => simp [headD] at hd
 | cons c r =>
  have hd : isD c = true := hd
  rw [pInt] at h
  split at h
  ·split at h
   ·cases h
   ·cases h; simp
  ·split at h
   ·cases h
    rw [List.dropWhile_cons, if_pos hd]
    have := Qf3 isD r
    simp only [QqF]; omega
   ·cases h
theorem QgF {ex : List UInt8 → Res T} (H : Eats 0 ex) : ∀ (m : Nat) (l : List T) (r : List UInt8) (a : List T) (r2 : List UInt8), QgX ex m l r = .ok a r2 → r2.length + 1 ≤ r.length
 | 0, _, _, _, _, h => by cases h
 | m + 1, l, r, a, r2, h => by
  rw [QgX] at h
  cases hs : skipSp r with
  | nil => rw [hs] at h; cases h
  | cons c r3 =>
   have hl := ZK hs
   rw [hs] at h
   simp only at h
   split at h
   ·cases he : ex r3 with
    | err e => rw [he] at h; cases h
    | ok t r4 =>
     rw [he] at h
     have h1 := H _ _ _ he
     have h2 := QgF H m _ r4 a r2 h
     omega
   ·split at h
    ·cases h; omega
    ·cases h
theorem QlE {ex : List UInt8 → Res T} (H : Eats 0 ex) {r r2 : List UInt8} {a : List T} (h : QhM ex r = .ok a r2) : r2.length ≤ r.length := by
 rw [QhM] at h
 have hl := YO r
 cases hs : skipSp r with
 | nil => rw [hs] at h; cases h; exact Nat.zero_le _
 | cons c r3 =>
  rw [hs] at h hl
  simp only [QqF] at h hl
  split at h
  ·cases he : ex r3 with
   | err e => rw [he] at h; cases h
   | ok t r4 =>
    rw [he] at h
    have h1 := H _ _ _ he
    have h2 := QgF H _ _ r4 a r2 h
    omega
  ·cases h; simp only [QqF]; omega
theorem Qkg {ex : List UInt8 → Res T} (H : Eats 0 ex) {c : UInt8} (hc : isW c = true) {r r2 : List UInt8} {a : T} (h : QkE ex (c :: r) = .ok a r2) : r2.length + 1 ≤ (c :: r).length := by
 have hd : ((c :: r).dropWhile isW).length + 1 ≤ (c :: r).length := by
  rw [List.dropWhile_cons, if_pos hc]
  have := Qf3 isW r
  simp only [QqF]; omega
 rw [QkE] at h
 split at h
 ·split at h
  ·cases h; exact hd
  ·cases h
 ·split at h
  ·cases ha : QhM ex ((c :: r).dropWhile isW) with
   | err e => rw [ha] at h; cases h
   | ok l r3 =>
    rw [ha] at h
    cases h
    have := QlE H ha
    omega
  ·cases h
theorem QoH {c : UInt8} (h : isL c = true) : isW c = true := by rw [isW, h]; rfl
theorem Qga (s : Bool) {ex : List UInt8 → Res T} (H : Eats 0 ex) : Eats 1 (YQ s ex) := by
 intro r a r2 h
 rw [YQ] at h
 cases hs : skipSp r with
 | nil => rw [hs] at h; cases h
 | cons c r3 =>
  have hl := YO r
  rw [hs] at h hl
  simp only [QqF] at h hl
  split at h
  ·rename_i hd
   have := QiS s 1 h hd
   simp only [QqF] at this; omega
  ·split at h
   ·split at h
    ·rename_i hd
     have := QiS s (-1) h hd
     omega
    ·cases h
   ·split at h
    ·rename_i hw
     have := Qkg H (QoH hw) h
     simp only [QqF] at this; omega
    ·split at h
     ·cases he : ex r3 with
      | err e => rw [he] at h; cases h
      | ok t r4 =>
       rw [he] at h
       have h1 := H _ _ _ he
       simp only at h
       cases hs2 : skipSp r4 with
       | nil => rw [hs2] at h; cases h
       | cons d r5 =>
        have h2 := ZK hs2
        rw [hs2] at h
        simp only at h
        split at h
        ·cases h; omega
        ·cases h
     ·cases h
theorem QdN {op : List UInt8 → Res T} (H : Eats 0 op) (st : Int) : ∀ (m : Nat) (t : T) (r : List UInt8) (a : T) (r2 : List UInt8), YZ op st m t r = .ok a r2 → r2.length ≤ r.length
 | 0, t, r, a, r2, h => by rw [YZ] at h; cases h; exact YO r
 | m + 1, t, r, a, r2, h => by
  rw [YZ] at h
  have hl := YO r
  cases hs : skipSp r with
  | nil => rw [hs] at h; cases h; exact Nat.zero_le _
  | cons c r3 =>
   rw [hs] at h hl
   simp only [QqF] at h hl
   split at h
   ·cases he : op r3 with
    | err e => rw [he] at h; cases h
    | ok u r4 =>
     rw [he] at h
     have h1 := H _ _ _ he
     have h2 := QdN H st m _ r4 a r2 h
     omega
   ·cases h; simp only [QqF]; omega
theorem Qb9 {op : List UInt8 → Res T} {k : Nat} (H : Eats k op) (st : Int) : Eats k (chain op st) := by
 intro r a r2 h
 rw [chain] at h
 cases he : op r with
 | err e => rw [he] at h; cases h
 | ok t r3 =>
  rw [he] at h
  have h1 := H _ _ _ he
  have h2 := QdN (fun r a r2 h => by have := H r a r2 h; omega) st _ _ _ _ _ h
  omega
theorem Eats.zero {α : Type} {k : Nat} {f : List UInt8 → Res α} (H : Eats k f) : Eats 0 f := fun r a r2 h => by have := H r a r2 h; omega
theorem Qgq (s : Bool) : ∀ n, Eats 0 (Qa7 s n)
 | 0 => fun r a r2 h => by cases h
 | n + 1 => (Qb9 (Qb9 (Qga s (Qgq s n)) 2) 1).zero
theorem QhJ {op : List UInt8 → Res T} (H : Eats 0 op) (st : Int) : ∀ (n m m' : Nat) (t : T) (r : List UInt8), r.length ≤ n → n < m → n < m' → YZ op st m t r = YZ op st m' t r := by
 intro n
 induction n with
 | zero =>
  intro m m' t r hr h1 h2
  obtain ⟨a, rfl⟩ : ∃ a, m = a + 1 := ⟨m - 1, by omega⟩
  obtain ⟨b, rfl⟩ : ∃ a, m' = a + 1 := ⟨m' - 1, by omega⟩
  have : r = [] := List.eq_nil_of_length_eq_zero (by omega)
  subst this; rfl
 | succ n ih =>
  intro m m' t r hr h1 h2
  obtain ⟨a, rfl⟩ : ∃ a, m = a + 1 := ⟨m - 1, by omega⟩
  obtain ⟨b, rfl⟩ : ∃ a, m' = a + 1 := ⟨m' - 1, by omega⟩
  rw [YZ, YZ]
  cases hs : skipSp r with
  | nil => rfl
  | cons c r3 =>
   have hl := ZK hs
   simp only
   split
   ·cases he : op r3 with
    | err e => rfl
    | ok u r4 =>
     have h1' := H _ _ _ he
     exact ih a b _ r4 (by omega) (by omega) (by omega)
   ·rfl
end Go.Proofs.YtniljpjjnmkoaaaGreatDoor.Ab
set_option maxRecDepth 4000
namespace Go.Proofs.YtniljpjjnmkoaaaGreatDoor.Ab
open Go.Proofs
def Qcw : List UInt8 → List UInt8
 | [] => []
 | c :: r => (if c.toNat = 40 ∨ c.toNat = 41 then [32, c, 32, 32] else if c.toNat = 44 then [32, c] else [c]) ++ Qcw r
def Lo (l l' : List UInt8) : Prop := skipSp l' = skipSp (Qcw l)
theorem Y0 (r : List UInt8) : skipSp (32 :: r) = skipSp r := by rw [skipSp, if_pos (by decide)]
theorem Ym : ∀ r, skipSp (skipSp r) = skipSp r
 | [] => rfl
 | c :: r => by
  rw [skipSp]; split
  ·exact Ym r
  ·rename_i h; rw [skipSp, if_neg h]
theorem Lo.skip {l l' : List UInt8} (h : Lo l l') : Lo l (skipSp l') := by rw [Lo, Ym]; exact h
theorem QaH : ∀ l : List UInt8, skipSp (Qcw l) = skipSp (Qcw (skipSp l))
 | [] => rfl
 | c :: r => by
  by_cases h : c.toNat = 32
  ·rw [skipSp, if_pos h, Qcw, if_neg (by omega), if_neg (by omega), List.singleton_append, skipSp, if_pos h]
   exact QaH r
  ·rw [skipSp, if_neg h]
theorem Lo.left {l l' : List UInt8} (h : Lo l l') : Lo (skipSp l) l' := by rw [Lo, ← QaH]; exact h
theorem Qh2 {r r2 : List UInt8} {c : UInt8} (h : skipSp r = c :: r2) : c.toNat ≠ 32 := by
 induction r with
 | nil => cases h
 | cons d r ih =>
  rw [skipSp] at h
  split at h
  ·exact ih h
  ·rename_i hd; cases h; exact hd
theorem Lo.nil {l l' : List UInt8} (h : Lo l l') (hs : skipSp l = []) : skipSp l' = [] := by
 rw [Lo, QaH, hs] at h; exact h
theorem Lo.cons {l l' r : List UInt8} {c : UInt8} (h : Lo l l') (hs : skipSp l = c :: r) : ∃ r', skipSp l' = c :: r' ∧ Lo r r' ∧ (c.toNat ≠ 40 → c.toNat ≠ 41 → r' = Qcw r) := by
 have hc := Qh2 hs
 rw [Lo, QaH, hs, Qcw] at h
 by_cases h1 : c.toNat = 40 ∨ c.toNat = 41
 ·rw [if_pos h1] at h
  simp only [QqU, QqT] at h
  rw [Y0, skipSp, if_neg hc] at h
  refine ⟨_, h, ?_, fun a b => by omega⟩
  rw [Lo, Y0, Y0]
 ·rw [if_neg h1] at h
  by_cases h2 : c.toNat = 44
  ·rw [if_pos h2] at h
   simp only [QqU, QqT] at h
   rw [Y0, skipSp, if_neg hc] at h
   exact ⟨_, h, rfl, fun _ _ => rfl⟩
  ·rw [if_neg h2] at h
   simp only [QqU, QqT] at h
   rw [skipSp, if_neg hc] at h
   exact ⟨_, h, rfl, fun _ _ => rfl⟩
theorem Lo.refl (r : List UInt8) : Lo r (Qcw r) := rfl
theorem Qkw {c : UInt8} (h : isD c = true) : c.toNat ≠ 40 ∧ c.toNat ≠ 41 ∧ c.toNat ≠ 44 ∧ c.toNat ≠ 32 := by
 simp only [isD, decide_eq_true_eq] at h; omega
def LoR {α : Type} : Res α → Res α → Prop
 | .ok a r, .ok b r' => a = b ∧ Lo r r'
 | .err e, .err e' => e = e'
 | _, _ => False
theorem LoR.ok {α : Type} {a : α} {r : List UInt8} {y : Res α} (h : LoR (.ok a r) y) : ∃ r', y = .ok a r' ∧ Lo r r' := by
 cases y with
 | err e => exact h.elim
 | ok b r' => obtain ⟨rfl, h⟩ := h; exact ⟨r', rfl, h⟩
theorem LoR.err {α : Type} {e : Int} {y : Res α} (h : LoR (.err e) y) : y = .err e := by
 cases y with
 | ok b r' => exact h.elim
 | err e' => have h : e = e' := h; subst h; rfl
theorem QbM (ex : List UInt8 → Res T) (c : UInt8) (r : List UInt8) : QkE ex (c :: r) = if c.toNat < 97 then (match varV (mkB ((c :: r).takeWhile isW)) with
  | some k => .ok (.mk 1 k eB []) ((c :: r).dropWhile isW)
  | none => .err 7) else
 if XY (mkB ((c :: r).takeWhile isW)) = true then (match QhM ex ((c :: r).dropWhile isW) with
  | .ok l r2 => .ok (.mk 2 0 (mkB ((c :: r).takeWhile isW)) l) r2
  | .err e => .err e) else .err 7 := rfl
end Go.Proofs.YtniljpjjnmkoaaaGreatDoor.Ab
set_option maxRecDepth 4000
namespace Go.Proofs.YtniljpjjnmkoaaaGreatDoor.Ab
open Go.Proofs
theorem QiZ : ∀ (l : List UInt8) (a n : Nat), Lib.decFrom a l = some n → (∀ c ∈ l, isD c = true) ∧ l.foldl (fun n c => 10 * n + (c.toNat - 48)) a = n
 | [], a, n, h => by
  rw [Lib.decFrom] at h; cases h; exact ⟨fun c hc => (by cases hc), rfl⟩
 | c :: l, a, n, h => by
  rw [Lib.decFrom] at h
  cases hd : Lib.digitVal c with
  | none => rw [hd] at h; cases h
  | some d =>
   rw [hd] at h
   have ih := QiZ l _ n h
   rw [Lib.digitVal] at hd
   split at hd
   ·rename_i hc
    cases hd
    refine ⟨fun x hx => ?_, ?_⟩
    ·rcases List.mem_cons.1 hx with rfl | hx
     ·rw [isD, decide_eq_true_eq]; exact hc
     ·exact ih.1 x hx
    ·rw [List.foldl_cons, ← ih.2]; congr 1; omega
   ·cases hd
theorem Qbl {p : UInt8 → Bool} {l r : List UInt8} (h : ∀ c ∈ l, p c = true) (hr : ∀ c q, r = c :: q → p c = false) : (l ++ r).takeWhile p = l ∧ (l ++ r).dropWhile p = r := by
 induction l with
 | nil =>
  cases r with
  | nil => exact ⟨rfl, rfl⟩
  | cons c q =>
   have := hr c q rfl
   simp [List.takeWhile_cons, List.dropWhile_cons, this]
 | cons c l ih =>
  have hc := h c (by simp)
  have ih := ih fun x hx => h x (by simp [hx])
  rw [List.cons_append, List.takeWhile_cons, List.dropWhile_cons, if_pos hc, if_pos hc, ih.1, ih.2]
  exact ⟨rfl, rfl⟩
theorem Qb4 (n : Nat) : (∀ c ∈ Lib.decDigits n, isD c = true) ∧ Qky (Lib.decDigits n) = n := QiZ _ _ _ (QdL n)
theorem QiB (n : Nat) : ∃ d r, Lib.decDigits n = d :: r ∧ isD d = true ∧ (0 < n → d.toNat ≠ 48) := by
 induction n using Nat.strongRecOn with
 | _ n ih =>
  have hd := (Qb4 n).1
  by_cases hn : n < 10
  ·have e : Lib.decDigits n = [UInt8.ofNat (48 + n)] := by rw [Lib.decDigits, dif_pos hn]
   rw [e] at hd
   refine ⟨_, _, e, hd _ (by simp), fun h => ?_⟩
   have : (UInt8.ofNat (48 + n)).toNat = 48 + n := by simp [UInt8.toNat_ofNat']; omega
   omega
  ·have e : Lib.decDigits n = Lib.decDigits (n / 10) ++ [UInt8.ofNat (48 + n % 10)] := by rw [Lib.decDigits, dif_neg hn]
   obtain ⟨d, r, e2, h1, h2⟩ := ih (n / 10) (by omega)
   exact ⟨d, r ++ [UInt8.ofNat (48 + n % 10)], by rw [e, e2]; rfl, h1, fun _ => h2 (by omega)⟩
theorem Qav (s : ByteArray) : mkB s.data.toList = s := by cases s; rfl
theorem QiW (s : Bool) (sign : Int) (hs : sign = 1 ∨ sign = -1) (n : Nat) (hn : n ≤ 2147483648) (h0 : sign = -1 → 0 < n) (r : List UInt8) (hr : headD r = false) : pInt s sign (Lib.decDigits n ++ r) = .ok (.mk 0 (sign * n) eB []) r := by
 obtain ⟨d, q, e, hd, h48⟩ := QiB n
 obtain ⟨ha, hv⟩ := Qb4 n
 have hw := Qbl (r := r) ha (fun c q e => by rw [e] at hr; exact hr)
 by_cases hz : n = 0
 ·subst hz
  have e0 : Lib.decDigits 0 = [48] := by rw [Lib.decDigits_one (by omega)]; rfl
  rw [e0]
  show pInt s sign (48 :: r) = _
  have hsg : ¬ (sign < 0 ∨ (s && headD r) = true) := by
   rw [hr]; rcases hs with h | h
   ·simp; omega
   ·exact absurd (h0 h) (by omega)
  rw [pInt, if_pos (by decide), if_neg hsg]; simp
 ·have hne := h48 (by omega)
  rw [e, List.cons_append] at hw ⊢
  rw [pInt, if_neg hne, hw.1, hw.2, ← e, hv, if_pos hn]
theorem Qgm (n : Nat) (r : List UInt8) : headD (Lib.decDigits n ++ r) = true := by
 obtain ⟨d, q, e, hd, _⟩ := QiB n
 rw [e]; exact hd
theorem Qjr (s : Bool) (ex : List UInt8 → Res T) {r : List UInt8} (h : headD r = true) : YQ s ex r = pInt s 1 r := by
 cases r with
 | nil => cases h
 | cons c q =>
  have h : isD c = true := h
  have hp := (Qkw h).2.2.2
  rw [YQ, skipSp, if_neg hp]
  simp only
  rw [if_pos h]
theorem Qnb (s : Bool) (ex : List UInt8 → Res T) (i : Int) (h1 : -2147483648 ≤ i) (h2 : i ≤ 2147483648) (r : List UInt8) (hr : headD r = false) : YQ s ex ((decZ i).data.toList ++ r) = .ok (.mk 0 i eB []) r := by
 rw [decZ]
 by_cases hi : i < 0
 ·rw [if_pos hi, Q9, ZZ]
  show YQ s ex (45 :: (Lib.decDigits i.natAbs ++ r)) = _
  rw [YQ, skipSp, if_neg (by decide)]
  simp only
  rw [if_neg (by decide), if_pos (by decide), if_pos (Qgm _ _), QiW s (-1) (.inr rfl) i.natAbs (by omega) (fun _ => by omega) r hr]
  congr 2; omega
 ·rw [if_neg hi, ZZ, Qjr s ex (Qgm _ _), QiW s 1 (.inl rfl) i.toNat (by omega) (fun h => by omega) r hr]
  congr 2; omega
theorem QmK (k : Nat) (hk : k ≤ 1048576) : varV (vOf (decN k)) = some k := by
 have e : (vOf (decN k)).data.toList = 86 :: (decN k).data.toList := Q9 _ _
 rw [varV, e, List.drop_succ_cons, List.drop_zero, ZZ, QdL]
 simp only
 rw [if_pos ⟨hk, by rw [e, ZZ]⟩]
theorem Qmn (s : Bool) (ex : List UInt8 → Res T) (k : Nat) (hk : k ≤ 1048576) (r : List UInt8) (hr : ∀ c q, r = c :: q → isW c = false) : YQ s ex ((vOf (decN k)).data.toList ++ r) = .ok (.mk 1 k eB []) r := by
 have e : (vOf (decN k)).data.toList = 86 :: (decN k).data.toList := Q9 _ _
 have hall : ∀ c ∈ (vOf (decN k)).data.toList, isW c = true := by
  intro c hc
  rw [e] at hc
  rcases List.mem_cons.1 hc with rfl | hc
  ·decide
  ·rw [ZZ] at hc; rw [isW, (Qb4 k).1 c hc, Bool.or_true]
 have hw := Qbl (r := r) hall hr
 have hv : varV (mkB (vOf (decN k)).data.toList) = some k := by rw [Qav]; exact QmK k hk
 rw [e] at hw hv
 rw [e, List.cons_append, YQ, skipSp, if_neg (by decide)]
 simp only
 rw [if_neg (by decide), if_neg (by decide), if_pos (by decide), QbM, if_pos (by decide)]
 rw [List.cons_append] at hw
 rw [hw.1, hw.2, hv]
end Go.Proofs.YtniljpjjnmkoaaaGreatDoor.Ab
set_option maxRecDepth 4000
namespace Go.Proofs.YtniljpjjnmkoaaaGreatDoor.Ab
open Go.Proofs
theorem QdO {s : ByteArray} (h : XY s = true) : ∃ c q, s.data.toList = c :: q ∧ (97 ≤ c.toNat ∧ c.toNat ≤ 122) ∧ ∀ x ∈ s.data.toList, isW x = true := by
 rw [XY, Bool.and_eq_true, decide_eq_true_eq] at h
 obtain ⟨⟨h1, h2, h3, h4⟩, _⟩ := h
 have hl : 0 < s.data.toList.length := by rw [← Lib.size_eq]; omega
 obtain ⟨c, q, e⟩ : ∃ c q, s.data.toList = c :: q := by
  cases hh : s.data.toList with
  | nil => rw [hh] at hl; cases hl
  | cons c q => exact ⟨c, q, rfl⟩
 refine ⟨c, q, e, ?_, fun x hx => ?_⟩
 ·have hb : byteAt s 0 = (c.toNat : Nat) := by rw [byteAt, e]; rfl
  rw [hb] at h3
  unfold ofN at h3
  split at h3
  ·omega
  ·split at h3
   ·cases h3
   ·split at h3 <;> cases h3
 ·obtain ⟨k, hk, ek⟩ := List.getElem_of_mem hx
  have := h4 k (by rw [Lib.size_eq]; exact hk)
  have hb : byteAt s k = (x.toNat : Nat) := by rw [byteAt, List.getD_eq_getElem?_getD, List.getElem?_eq_getElem hk, ek]; rfl
  rw [hb, Qhz] at this
  rw [isW, isL, isD, Bool.or_eq_true, decide_eq_true_eq, decide_eq_true_eq]
  omega
def C (op : List UInt8 → Res T) (st : Int) (t : T) (r : List UInt8) : Res T := YZ op st (r.length + 1) t r
theorem Qe7 {op : List UInt8 → Res T} (H : Eats 0 op) {st : Int} {m : Nat} {t : T} {r : List UInt8} (h : r.length < m) : YZ op st m t r = C op st t r := QhJ H st r.length m _ t r (Nat.le_refl _) h (by omega)
theorem QkT (op : List UInt8 → Res T) (st : Int) (r : List UInt8) : chain op st r = match op r with
 | .ok t r2 => C op st t r2
 | .err e => .err e := rfl
theorem QiN {op : List UInt8 → Res T} (H : Eats 0 op) {st : Int} {t : T} {r r' : List UInt8} (h : skipSp r = skipSp r') : C op st t r = C op st t r' := by
 obtain ⟨m, hm⟩ : ∃ m, m = r.length + r'.length + 1 := ⟨_, rfl⟩
 rw [← Qe7 H (m := m + 1) (by omega), ← Qe7 H (m := m + 1) (by omega), YZ, YZ, h]
theorem Qhf {op : List UInt8 → Res T} {st : Int} {t : T} {r : List UInt8} (h : ∀ c q, skipSp r = c :: q → ofB (mkB [c]) ≠ st) : C op st t r = .ok t (skipSp r) := by
 rw [C, YZ]
 cases hs : skipSp r with
 | nil => rfl
 | cons c q => simp only; rw [if_neg (h c q hs)]
theorem C_step {op : List UInt8 → Res T} (H : Eats 0 op) {st : Int} {t u : T} {r q r3 : List UInt8} {c : UInt8} (hs : skipSp r = c :: q) (hc : ofB (mkB [c]) = st) (hop : op q = .ok u r3) : C op st t r = C op st (.mk 2 0 (mkB [c]) [t, u]) r3 := by
 have l1 := ZK hs
 have l2 := H _ _ _ hop
 rw [C, YZ, hs]
 simp only
 rw [if_pos hc, hop]
 exact Qe7 H (by omega)
structure After (r : List UInt8) : Prop where
 word : ∀ c q, r = c :: q → isW c = false
 par : ∀ c q, skipSp r = c :: q → c.toNat ≠ 40
theorem After.digit {r : List UInt8} (h : After r) : headD r = false := by
 cases r with
 | nil => rfl
 | cons c q =>
  have := h.word c q rfl
  rw [isW, Bool.or_eq_false_iff] at this
  exact this.2
def QcO (r : List UInt8) : Prop := ∀ c q, skipSp r = c :: q → ofB (mkB [c]) ≠ 2
def Qnx (r : List UInt8) : Prop := ∀ c q, skipSp r = c :: q → ofB (mkB [c]) ≠ 1
theorem QmM (s : Bool) (n : Nat) (r : List UInt8) : Qa7 s n (32 :: r) = Qa7 s n r := by
 cases n with
 | zero => rfl
 | succ n =>
  have e : ∀ ex, YQ s ex (32 :: r) = YQ s ex r := fun ex => by rw [YQ, YQ, Y0]
  simp only [Qa7, QkT, e]
theorem QeT (s : Bool) (ex : List UInt8 → Res T) (r : List UInt8) : YQ s ex (32 :: r) = YQ s ex r := by rw [YQ, YQ, Y0]
abbrev O (s : Bool) (n : Nat) : List UInt8 → Res T := YQ s (Qa7 s n)
abbrev Pr (s : Bool) (n : Nat) : List UInt8 → Res T := chain (O s n) 2
theorem Qgk (s : Bool) (n : Nat) : Eats 0 (O s n) := (Qga s (Qgq s n)).zero
theorem QhH (s : Bool) (n : Nat) : Eats 0 (Pr s n) := Qb9 (Qgk s n) 2
theorem Qj6 (s : Bool) (n : Nat) : Qa7 s (n + 1) = chain (Pr s n) 1 := rfl
def tl (t : T) : List UInt8 := t.txt.data.toList
theorem Qis {c : UInt8} (h : c.toNat = 41 ∨ c.toNat = 44) (r : List UInt8) : After (c :: r) ∧ QcO (c :: r) ∧ Qnx (c :: r) := by
 have hs : skipSp (c :: r) = c :: r := by rw [skipSp, if_neg (by omega)]
 have ho : ofB (mkB [c]) = 0 := by
  have e : ∀ d : UInt8, d.toNat ≠ 41 → d.toNat ≠ 44 → (((mkB [c]).toList == ({ data := #[d] } : ByteArray).toList) = false) := fun d h1 h2 => by
   rw [Lib.toList_data, Lib.toList_data, beq_eq_false_iff_ne]
   intro hh
   have : c = d := by simpa [mkB] using hh
   subst this; omega
  rw [ofB, e 43 (by decide) (by decide), e 45 (by decide) (by decide), e 42 (by decide) (by decide), e 47 (by decide) (by decide), e 37 (by decide) (by decide)]; rfl
 refine ⟨⟨fun c' q e => ?_, fun c' q e => ?_⟩, fun c' q e => ?_, fun c' q e => ?_⟩
 ·cases e; rw [isW, isL, isD, Bool.or_eq_false_iff, decide_eq_false_iff_not, decide_eq_false_iff_not]; omega
 ·rw [hs] at e; cases e; omega
 ·rw [hs] at e; cases e; rw [ho]; decide
 ·rw [hs] at e; cases e; rw [ho]; decide
theorem QiR {c : UInt8} {st : Int} (h : ofB (mkB [c]) = st) (h0 : st ≠ 0) (r : List UInt8) : After (32 :: c :: r) ∧ skipSp (32 :: c :: r) = c :: r := by
 have hc : c.toNat = 43 ∨ c.toNat = 45 ∨ c.toNat = 42 ∨ c.toNat = 47 ∨ c.toNat = 37 := by
  apply Classical.byContradiction
  intro hn
  have e : ∀ d : UInt8, d.toNat ≠ c.toNat → (((mkB [c]).toList == ({ data := #[d] } : ByteArray).toList) = false) := fun d h1 => by
   rw [Lib.toList_data, Lib.toList_data, beq_eq_false_iff_ne]
   intro hh
   have : c = d := by simpa [mkB] using hh
   subst this; exact h1 rfl
  have v : ∀ (d : UInt8) (k : Nat), d.toNat = k → (c.toNat = 43 ∨ c.toNat = 45 ∨ c.toNat = 42 ∨ c.toNat = 47 ∨ c.toNat = 37 → False) → (k = 43 ∨ k = 45 ∨ k = 42 ∨ k = 47 ∨ k = 37) → d.toNat ≠ c.toNat := fun d k hd hn hk => by omega
  rw [ofB, e 43 (v 43 43 rfl hn (by decide)), e 45 (v 45 45 rfl hn (by decide)), e 42 (v 42 42 rfl hn (by decide)), e 47 (v 47 47 rfl hn (by decide)), e 37 (v 37 37 rfl hn (by decide))] at h
  exact h0 h.symm
 have hs : skipSp (32 :: c :: r) = c :: r := by rw [Y0, skipSp, if_neg (by omega)]
 refine ⟨⟨fun c' q e => ?_, fun c' q e => ?_⟩, hs⟩
 ·cases e; decide
 ·rw [hs] at e; cases e; omega
end Go.Proofs.YtniljpjjnmkoaaaGreatDoor.Ab
set_option maxRecDepth 4000
namespace Go.Proofs.YtniljpjjnmkoaaaGreatDoor.Ab
open Go.Proofs
def RO (s : Bool) (t : T) : Prop := t.oper = 0 → ∀ (n : Nat) (r : List UInt8), (tl t).length + r.length ≤ n → After r → ∃ r', O s n (tl t ++ r) = .ok t r' ∧ skipSp r' = skipSp r
def RP (s : Bool) (t : T) : Prop := t.oper ≠ 1 → ∀ (n : Nat) (r : List UInt8), (tl t).length + r.length ≤ n → After r → Pr s n (tl t ++ r) = C (O s n) 2 t r
def RE (s : Bool) (t : T) : Prop := ∀ (n : Nat) (r : List UInt8), (tl t).length + r.length ≤ n → After r → QcO r → Qa7 s (n + 1) (tl t ++ r) = C (Pr s n) 1 t r
theorem Qfy {s : Bool} {t : T} (H : RE s t) {c : UInt8} (hc : c.toNat = 41 ∨ c.toNat = 44) (n : Nat) (r : List UInt8) (hn : (tl t).length + r.length + 1 ≤ n) : Qa7 s (n + 1) (tl t ++ c :: r) = .ok t (c :: r) := by
 obtain ⟨h1, h2, h3⟩ := Qis hc r
 rw [H n (c :: r) (by simp only [QqF]; omega) h1 h2, Qhf h3, skipSp, if_neg (by omega)]
theorem Qon {s : Bool} {t : T} (H : RE s t) (n : Nat) (r : List UInt8) (hn : (tl t).length + r.length + 2 ≤ n) : O s n (40 :: (tl t ++ 41 :: r)) = .ok t r := by
 obtain ⟨m, rfl⟩ : ∃ m, n = m + 1 := ⟨n - 1, by omega⟩
 show YQ s (Qa7 s (m + 1)) _ = _
 rw [YQ, skipSp, if_neg (by decide)]
 simp only
 rw [if_neg (by decide), if_neg (by decide), if_neg (by decide), if_pos (by decide), Qfy H (.inl rfl) m r (by omega)]
 simp only
 rw [skipSp, if_neg (by decide)]
 simp only
 rw [if_pos (by decide)]
def tails : List T → List UInt8
 | [] => []
 | t :: l => 44 :: 32 :: (tl t ++ tails l)
theorem QeM : ∀ l : List T, (YN false (txts l)).data.toList = tails l
 | [] => rfl
 | t :: l => by
  rw [txts, YN, Q9, QeM l, if_neg (by simp), Q9]
  rfl
theorem QbB {s : Bool} : ∀ (l : List T) (acc : List T) (n m : Nat) (r : List UInt8), (∀ t ∈ l, RE s t) → (tails l).length + r.length + 1 ≤ n → (tails l).length + r.length + 1 < m → QgX (Qa7 s (n + 1)) m acc (tails l ++ 41 :: r) = .ok (acc ++ l) r
 | [], acc, n, m, r, _, _, hm => by
  obtain ⟨a, rfl⟩ : ∃ a, m = a + 1 := ⟨m - 1, by omega⟩
  show QgX _ (a + 1) acc (41 :: r) = _
  rw [QgX, skipSp, if_neg (by decide)]
  simp only
  rw [if_neg (by decide), if_pos (by decide), List.append_nil]
 | t :: l, acc, n, m, r, H, hn, hm => by
  obtain ⟨a, rfl⟩ : ∃ a, m = a + 1 := ⟨m - 1, by omega⟩
  have e : tails (t :: l) ++ 41 :: r = 44 :: 32 :: (tl t ++ (tails l ++ 41 :: r)) := by simp [tails]
  have hlen : (tails (t :: l)).length = 2 + (tl t).length + (tails l).length := by simp [tails]; omega
  obtain ⟨c, q, hcq, hc⟩ : ∃ c q, tails l ++ 41 :: r = c :: q ∧ (c.toNat = 41 ∨ c.toNat = 44) := by
   cases l with
   | nil => exact ⟨41, r, rfl, .inl rfl⟩
   | cons x l => exact ⟨44, _, rfl, .inr rfl⟩
  have hq : q.length + 1 = (tails l).length + r.length + 1 := by
   have := congrArg List.length hcq
   simp only [Qrj, QqF] at this; omega
  have h1 := Qfy (H t (by simp)) hc n q (by omega)
  rw [e, QgX, skipSp, if_neg (by decide)]
  simp only
  rw [if_pos (by decide), QmM, hcq, h1]
  simp only
  rw [← hcq, QbB l (acc ++ [t]) n a r (fun x hx => H x (by simp [hx])) (by omega) (by omega), List.append_assoc]
  rfl
theorem Qms {t : T} (h2 : t.kind = 2) (h0 : t.oper = 0) : t.txt = funT t.name (txts t.args) := by
 cases t with | mk k i n l =>
 have h2 : k = 2 := h2
 rw [T.txt, if_neg (by simpa using h0), if_neg (by omega), if_neg (by omega)]; rfl
theorem Qmw {s : Bool} (name : ByteArray) (hr : XY name = true) (l : List T) (H : ∀ t ∈ l, RE s t) (n : Nat) (r : List UInt8) (hn : (funT name (txts l)).data.toList.length + r.length ≤ n) (ha : After r) :
  ∃ r', QkE (Qa7 s n) ((funT name (txts l)).data.toList ++ r) = .ok (.mk 2 0 name l) r' ∧ skipSp r' = skipSp r := by
 obtain ⟨c, q, e, hc, hall⟩ := QdO hr
 cases l with
 | nil =>
  have et : (funT name (txts [])).data.toList = name.data.toList := by
   rw [funT, encB, if_neg (by simp [txts]), txts, YN, Q9]; simp
  have hw := Qbl (r := r) hall ha.word
  rw [e] at hw
  rw [et, e]
  rw [List.cons_append] at hw ⊢
  rw [QbM, if_neg (by omega), hw.1, hw.2, ← e, Qav, if_pos hr, QhM]
  cases hs : skipSp r with
  | nil => exact ⟨[], rfl, rfl⟩
  | cons d q2 =>
   have := ha.par d q2 hs
   simp only
   rw [if_neg this]
   exact ⟨_, rfl, by rw [← hs, Ym]⟩
 | cons t l =>
  have et : (funT name (txts (t :: l))).data.toList = name.data.toList ++ 40 :: (tl t ++ (tails l ++ [41])) := by
   rw [funT, encB, if_pos (by simp [txts]), Q9, Q9, Q9, txts, YN, if_pos rfl, Q9, QeM]
   show _ ++ (40 :: _ ++ [41]) = _
   simp [tl]
  have hlen : (funT name (txts (t :: l))).data.toList.length = name.data.toList.length + (tl t).length + (tails l).length + 2 := by rw [et]; simp; omega
  have hp : ∀ c' q', (40 : UInt8) :: (tl t ++ (tails l ++ 41 :: r)) = c' :: q' → isW c' = false := fun c' q' h => by cases h; decide
  have hw := Qbl (r := 40 :: (tl t ++ (tails l ++ 41 :: r))) hall hp
  have e2 : (funT name (txts (t :: l))).data.toList ++ r = name.data.toList ++ 40 :: (tl t ++ (tails l ++ 41 :: r)) := by rw [et]; simp
  have hnl : 1 ≤ name.data.toList.length := by rw [e]; simp
  obtain ⟨m, rfl⟩ : ∃ m, n = m + 1 := ⟨n - 1, by omega⟩
  obtain ⟨d, q2, hcq, hd⟩ : ∃ c q, tails l ++ 41 :: r = c :: q ∧ (c.toNat = 41 ∨ c.toNat = 44) := by
   cases l with
   | nil => exact ⟨41, r, rfl, .inl rfl⟩
   | cons x l => exact ⟨44, _, rfl, .inr rfl⟩
  have hq : q2.length + 1 = (tails l).length + r.length + 1 := by
   have := congrArg List.length hcq
   simp only [Qrj, QqF] at this; omega
  have h1 := Qfy (H t (by simp)) hd m q2 (by omega)
  rw [← hcq] at h1
  have h2 := QbB (s := s) l [t] m ((tails l ++ 41 :: r).length + 1) r (fun x hx => H x (by simp [hx])) (by omega) (by simp)
  rw [e2, e]
  rw [e] at hw
  rw [List.cons_append] at hw ⊢
  rw [QbM, if_neg (by omega), hw.1, hw.2, ← e, Qav, if_pos hr, QhM, skipSp, if_neg (by decide)]
  simp only
  rw [if_pos (by decide), h1]
  simp only
  rw [h2]
  exact ⟨r, rfl, rfl⟩
end Go.Proofs.YtniljpjjnmkoaaaGreatDoor.Ab
set_option maxRecDepth 4000
namespace Go.Proofs.YtniljpjjnmkoaaaGreatDoor.Ab
open Go.Proofs
theorem Qn2 {s : Bool} {t : T} (hf : t.QpG = true) (H : ∀ a ∈ t.args, RE s a) : RO s t := by
 intro h0 n r hn ha
 have et : ∀ (e : t.oper = 0), t.txt = if t.kind = 0 then decZ t.int else if t.kind = 1 then vOf (decN t.int.toNat) else funT t.name (txts t.args) := fun e => by
  cases t with | mk k i nm l => rw [T.txt, if_neg (by rw [e]; simp)]; rfl
 have hfe := hf
 rw [T.QpP] at hfe
 have simple : ∀ {k : Int}, t.kind = k → (Y6 t.name && t.args.isEmpty) = true → t = .mk k t.int eB [] := fun hk he => by
  rw [Bool.and_eq_true] at he
  have e1 : t.name = eB := by
   have := YT he.1
   cases hh : t.name with | mk d =>
   rw [hh] at this
   have : d.size = 0 := this
   have : d = #[] := Array.eq_empty_of_size_eq_zero this
   rw [this]; rfl
  have e2 : t.args = [] := by simpa using he.2
  cases t with | mk k' i nm l => simp only [T.kind, T.name, T.args, T.int] at hk e1 e2 ⊢; rw [hk, e1, e2]
 by_cases k0 : t.kind = 0
 ·rw [if_pos k0] at hfe
  simp only [Bool.and_assoc, Bool.and_eq_true, decide_eq_true_eq] at hfe
  have es := simple k0 (by rw [Bool.and_eq_true]; exact hfe.2)
  have e2 : tl t = (decZ t.int).data.toList := by rw [tl, et h0, if_pos k0]
  refine ⟨r, ?_, rfl⟩
  rw [e2, es]
  exact Qnb s _ t.int hfe.1.1 hfe.1.2 r ha.digit
 by_cases k1 : t.kind = 1
 ·rw [if_neg k0, if_pos k1] at hfe
  simp only [Bool.and_assoc, Bool.and_eq_true, decide_eq_true_eq] at hfe
  have es := simple k1 (by rw [Bool.and_eq_true]; exact hfe.2)
  have e2 : tl t = (vOf (decN t.int.toNat)).data.toList := by rw [tl, et h0, if_neg k0, if_pos k1]
  refine ⟨r, ?_, rfl⟩
  have := Qmn s (Qa7 s n) t.int.toNat (by omega) r ha.word
  rw [e2, show O s n ((vOf (decN t.int.toNat)).data.toList ++ r) = _ from this]
  rw [show ((t.int.toNat : Nat) : Int) = t.int by omega, ← es]
 have k2 : t.kind = 2 := by
  apply Classical.byContradiction
  intro k2
  rw [if_neg k0, if_neg k1, if_neg k2] at hfe
  cases hfe
 obtain ⟨hi, _, hnm, _⟩ := T.QpM hf k2
 have hr : XY t.name = true := by
  rcases hnm with h | ⟨h, hl⟩
  ·exact h
  ·exfalso
   rw [T.oper, if_neg (by omega), QnG h] at h0
   split at h0 <;> cases h0
 have e2 : tl t = (funT t.name (txts t.args)).data.toList := by rw [tl, et h0, if_neg k0, if_neg k1]
 obtain ⟨r', h1, h2⟩ := Qmw (s := s) t.name hr t.args H n r (by rw [← e2]; omega) ha
 obtain ⟨c, q, e, hc, _⟩ := QdO hr
 have e3 : ∃ q', tl t ++ r = c :: q' := by
  rw [e2, funT, Q9, e]; exact ⟨_, by rw [List.cons_append, List.cons_append]⟩
 obtain ⟨q', e3⟩ := e3
 refine ⟨r', ?_, h2⟩
 have e4 : t = .mk 2 0 t.name t.args := by
  cases t with | mk k' i nm l => simp only [T.kind, T.int] at k2 hi; rw [k2, hi]; rfl
 rw [← e2, e3] at h1
 rw [e3]
 show YQ s (Qa7 s n) (c :: q') = _
 rw [YQ, skipSp, if_neg (by omega)]
 simp only
 rw [if_neg (by rw [isD, decide_eq_true_eq]; omega), if_neg (by omega), if_pos (by rw [isL, decide_eq_true_eq]; omega), h1, ← e4]
theorem QlN {t : T} (hf : t.QpG = true) (h0 : t.oper ≠ 0) : ∃ (c : UInt8) (x y : T), t = .mk 2 0 (mkB [c]) [x, y] ∧ ofB (mkB [c]) = t.oper ∧ x.QpG = true ∧ y.QpG = true ∧
  tl t = (encB ((x.oper == 1) && (t.oper == 2)) x.txt).data.toList ++ 32 :: c :: 32 :: (encB ((y.oper != 0) && ((y.oper == 1) || (t.oper == 2))) y.txt).data.toList := by
 have k2 : t.kind = 2 := by
  apply Classical.byContradiction; intro h; exact h0 (by rw [T.oper, if_pos (.inl h)])
 have hl : t.args.length = 2 := by
  apply Classical.byContradiction; intro h; exact h0 (by rw [T.oper, if_pos (.inr h)])
 have er : t.oper = ofB t.name := by rw [T.oper, if_neg (by omega)]
 obtain ⟨hi, _, _, hfs⟩ := T.QpM hf k2
 obtain ⟨x, y, hxy⟩ : ∃ x y, t.args = [x, y] := by
  match hh : t.args, hl with
  | [x, y], _ => exact ⟨x, y, rfl⟩
 have hop : opB t.name = true := by
  cases h : opB t.name with
  | true => rfl
  | false => exact absurd (by rw [er, Qnz h]) h0
 obtain ⟨c, ec⟩ : ∃ c, t.name = mkB [c] := by
  simp only [opB, Bool.or_eq_true, beq_iff_eq, Lib.toList_data] at hop
  rcases hop with (((h | h) | h) | h) | h
  all_goals exact ⟨_, by rw [← Qav t.name, h]⟩
 rw [hxy] at hfs
 refine ⟨c, x, y, ?_, ?_, Qap hfs x (by simp), Qap hfs y (by simp), ?_⟩
 ·cases t with | mk k i nm l => simp only [T.kind, T.int, T.name, T.args] at k2 hi ec hxy; rw [k2, hi, ec, hxy]
 ·rw [er, ec]
 ·have : t.txt = binT (ofB t.name) t.name x.oper y.oper x.txt y.txt := by
   cases t with | mk k i nm l =>
   simp only [T.args] at hxy
   subst hxy
   rw [T.txt, if_pos h0]; rfl
  rw [tl, this, binT, ← er, ec]
  simp only [Q9]
  show _ ++ ([32] ++ [c] ++ [32]) ++ _ = _
  simp
theorem Zw (b : Bool) (x : ByteArray) : (encB b x).data.toList = if b = true then 40 :: (x.data.toList ++ [41]) else x.data.toList := by
 rw [encB]; split
 ·rw [Q9, Q9]; rfl
 ·rfl
theorem Pr_C (s : Bool) (n : Nat) (r : List UInt8) : Pr s n r = match O s n r with
 | .ok t r2 => C (O s n) 2 t r2
 | .err e => .err e := rfl
theorem QmL (s : Bool) : ∀ (k : Nat) (t : T), t.nds ≤ k → t.QpG = true → RO s t ∧ RP s t ∧ RE s t := by
 intro k
 induction k with
 | zero => intro t hn; have := T.QpH t; omega
 | succ k ih =>
  intro t hn hf
  have hnd := T.QpH t
  have sub : ∀ a ∈ t.args, a.QpG = true → RO s a ∧ RP s a ∧ RE s a := fun a ha hfa => by
   obtain ⟨j, hj, e⟩ := List.getElem_of_mem ha
   have := YD hj
   rw [e] at this
   exact ih a (by omega) hfa
  have hro : RO s t := by
   refine Qn2 hf fun a ha => (sub a ha ?_).2.2
   by_cases k2 : t.kind = 2
   ·exact Qap (T.QpM hf k2).2.2.2 a ha
   ·exfalso
    rw [T.QpP] at hf
    by_cases k0 : t.kind = 0
    ·rw [if_pos k0] at hf
     simp only [Bool.and_eq_true] at hf
     have : t.args = [] := by simpa using hf.2
     rw [this] at ha; cases ha
    ·rw [if_neg k0] at hf
     by_cases k1 : t.kind = 1
     ·rw [if_pos k1] at hf
      simp only [Bool.and_eq_true] at hf
      have : t.args = [] := by simpa using hf.2
      rw [this] at ha; cases ha
     ·rw [if_neg k1, if_neg k2] at hf; cases hf
  have hrp : RP s t := by
   intro h1 n r hn2 ha
   by_cases h0 : t.oper = 0
   ·obtain ⟨r', e1, e2⟩ := hro h0 n r hn2 ha
    rw [Pr_C, e1]
    exact QiN (Qgk s n) e2
   have h2 : t.oper = 2 := by have := T.Qqa t; omega
   obtain ⟨c, x, y, et, eo, hfx, hfy, etl⟩ := QlN hf h0
   have hx := sub x (by rw [et]; simp [T.args]) hfx
   have hy := sub y (by rw [et]; simp [T.args]) hfy
   rw [h2] at eo etl
   obtain ⟨YL, eYL⟩ : ∃ YL, YL = (encB ((y.oper != 0) && ((y.oper == 1) || ((2 : Int) == 2))) y.txt).data.toList := ⟨_, rfl⟩
   obtain ⟨XL, eXL⟩ : ∃ XL, XL = (encB ((x.oper == 1) && ((2 : Int) == 2)) x.txt).data.toList := ⟨_, rfl⟩
   rw [← eYL, ← eXL] at etl
   obtain ⟨hA, hsk⟩ := QiR eo (by decide) (32 :: (YL ++ r))
   have hlen := congrArg List.length etl
   simp only [Qrj, QqF] at hlen
   -- behind the left operand
   have step : C (O s n) 2 x (32 :: c :: 32 :: (YL ++ r)) = C (O s n) 2 t r := by
    by_cases hy0 : y.oper = 0
    ·have eY : YL = tl y := by rw [eYL, Zw, if_neg (by rw [hy0]; simp)]; rfl
     rw [eY] at hsk hlen ⊢
     obtain ⟨r', e1, e2⟩ := hy.1 hy0 n r (by omega) ha
     have e1' : O s n (32 :: (tl y ++ r)) = .ok y r' := by rw [show O s n (32 :: (tl y ++ r)) = O s n (tl y ++ r) from QeT _ _ _]; exact e1
     rw [C_step (Qgk s n) hsk eo e1', ← et]
     exact QiN (Qgk s n) e2
    ·have eY : YL = 40 :: (tl y ++ [41]) := by rw [eYL, Zw, if_pos (by simp [hy0])]; rfl
     rw [eY] at hsk hlen ⊢
     simp only [Qrj, QqF, QqG] at hlen
     have e1 := Qon hy.2.2 n r (by omega)
     have e1' : O s n (32 :: (40 :: (tl y ++ [41]) ++ r)) = .ok y r := by
      rw [show O s n (32 :: (40 :: (tl y ++ [41]) ++ r)) = O s n (40 :: (tl y ++ [41]) ++ r) from QeT _ _ _]
      rw [show (40 :: (tl y ++ [41]) ++ r) = 40 :: (tl y ++ 41 :: r) by simp]; exact e1
     rw [C_step (Qgk s n) hsk eo e1', ← et]
   rw [etl]
   simp only [List.append_assoc, QqU]
   rw [← step]
   by_cases hx1 : x.oper = 1
   ·have eX : XL = 40 :: (tl x ++ [41]) := by rw [eXL, Zw, if_pos (by rw [hx1]; rfl)]; rfl
    rw [eX] at hlen ⊢
    simp only [Qrj, QqF, QqG] at hlen
    have e1 := Qon hx.2.2 n (32 :: c :: 32 :: (YL ++ r)) (by simp only [QqF, Qrj]; omega)
    rw [Pr_C]
    rw [show (40 :: (tl x ++ [41]) ++ 32 :: c :: 32 :: (YL ++ r)) = 40 :: (tl x ++ 41 :: (32 :: c :: 32 :: (YL ++ r))) by simp, e1]
   ·have eX : XL = tl x := by rw [eXL, Zw, if_neg (by simp [hx1])]; rfl
    rw [eX] at hlen ⊢
    exact hx.2.1 hx1 n _ (by simp only [QqF, Qrj]; omega) hA
  refine ⟨hro, hrp, ?_⟩
  intro n r hn2 ha hns
  by_cases h1 : t.oper = 1
  ·obtain ⟨c, x, y, et, eo, hfx, hfy, etl⟩ := QlN hf (by omega)
   have hx := sub x (by rw [et]; simp [T.args]) hfx
   have hy := sub y (by rw [et]; simp [T.args]) hfy
   rw [h1] at eo etl
   obtain ⟨YL, eYL⟩ : ∃ YL, YL = (encB ((y.oper != 0) && ((y.oper == 1) || ((1 : Int) == 2))) y.txt).data.toList := ⟨_, rfl⟩
   have eX : (encB ((x.oper == 1) && ((1 : Int) == 2)) x.txt).data.toList = tl x := by rw [Zw, if_neg (by simp)]; rfl
   rw [← eYL, eX] at etl
   obtain ⟨hA, hsk⟩ := QiR eo (by decide) (32 :: (YL ++ r))
   have hlen := congrArg List.length etl
   simp only [Qrj, QqF] at hlen
   have hns2 : QcO (32 :: c :: 32 :: (YL ++ r)) := fun d q e => by
    rw [hsk] at e; cases e; rw [eo]; decide
   rw [etl]
   simp only [List.append_assoc, QqU]
   have e0 := hx.2.2 n _ (by simp only [QqF, Qrj]; omega) hA hns2
   rw [e0]
   have psp : ∀ q, Pr s n (32 :: q) = Pr s n q := fun q => by rw [Pr_C, Pr_C, show O s n (32 :: q) = O s n q from QeT _ _ _]
   have hyr : Pr s n (32 :: (YL ++ r)) = .ok y (skipSp r) := by
    rw [psp]
    by_cases hy1 : y.oper = 1
    ·have eY : YL = 40 :: (tl y ++ [41]) := by rw [eYL, Zw, if_pos (by rw [hy1]; rfl)]; rfl
     rw [eY] at hlen ⊢
     simp only [Qrj, QqF, QqG] at hlen
     have e1 := Qon hy.2.2 n r (by omega)
     rw [Pr_C, show (40 :: (tl y ++ [41]) ++ r) = 40 :: (tl y ++ 41 :: r) by simp, e1]
     exact Qhf hns
    ·have eY : YL = tl y := by rw [eYL, Zw, if_neg (by simp [hy1])]; rfl
     rw [eY] at hlen ⊢
     rw [hy.2.1 hy1 n r (by omega) ha]
     exact Qhf hns
   rw [C_step (QhH s n) hsk eo hyr, ← et]
   exact QiN (QhH s n) (Ym r)
  ·rw [Qj6, QkT, hrp h1 n r hn2 ha, Qhf hns]
   exact QiN (QhH s n) (Ym r)
end Go.Proofs.YtniljpjjnmkoaaaGreatDoor.Ab
set_option maxRecDepth 4000
namespace Go.Proofs.YtniljpjjnmkoaaaGreatDoor.Ab
open Go.Proofs
theorem QlJ {c : UInt8} (h : c.toNat = 41 ∨ c.toNat = 44 ∨ c.toNat = 59) (r : List UInt8) : After (c :: r) ∧ QcO (c :: r) ∧ Qnx (c :: r) := by
 have hs : skipSp (c :: r) = c :: r := by rw [skipSp, if_neg (by omega)]
 have ho : ofB (mkB [c]) = 0 := by
  have e : ∀ d : UInt8, d.toNat ≠ 41 → d.toNat ≠ 44 → d.toNat ≠ 59 → (((mkB [c]).toList == ({ data := #[d] } : ByteArray).toList) = false) := fun d h1 h2 h3 => by
   rw [Lib.toList_data, Lib.toList_data, beq_eq_false_iff_ne]
   intro hh
   have : c = d := by simpa [mkB] using hh
   subst this; omega
  rw [ofB, e 43 (by decide) (by decide) (by decide), e 45 (by decide) (by decide) (by decide), e 42 (by decide) (by decide) (by decide), e 47 (by decide) (by decide) (by decide), e 37 (by decide) (by decide) (by decide)]; rfl
 refine ⟨⟨fun c' q e => ?_, fun c' q e => ?_⟩, fun c' q e => ?_, fun c' q e => ?_⟩
 ·cases e; rw [isW, isL, isD, Bool.or_eq_false_iff, decide_eq_false_iff_not, decide_eq_false_iff_not]; omega
 ·rw [hs] at e; cases e; omega
 ·rw [hs] at e; cases e; rw [ho]; decide
 ·rw [hs] at e; cases e; rw [ho]; decide
theorem QnA {t : T} (H : RE true t) {c : UInt8} (hc : c.toNat = 41 ∨ c.toNat = 44 ∨ c.toNat = 59) (n : Nat) (r : List UInt8) (hn : (tl t).length + r.length + 1 ≤ n) : Qa7 true (n + 1) (tl t ++ c :: r) = .ok t (c :: r) := by
 obtain ⟨h1, h2, h3⟩ := QlJ hc r
 rw [H n (c :: r) (by simp only [QqF]; omega) h1 h2, Qhf h3, skipSp, if_neg (by omega)]
theorem QfQ {t : T} (h : t.QpG = true) : RE true t := (QmL true t.nds t (Nat.le_refl _) h).2.2
def QhS (k : Nat) (t : T) : List UInt8 := (vOf (decN k)).data.toList ++ 32 :: 61 :: 32 :: tl t
def QcE : Nat → List T → List UInt8
 | _, [] => []
 | k, t :: l => 44 :: 32 :: (QhS k t ++ QcE (k + 1) l)
theorem Qen (k : Nat) (l : List T) (R : List UInt8) : ∃ c q, QcE k l ++ 59 :: R = c :: q ∧ (c.toNat = 41 ∨ c.toNat = 44 ∨ c.toNat = 59) := by
 cases l with
 | nil => exact ⟨59, R, rfl, by decide⟩
 | cons t l => exact ⟨44, _, rfl, by decide⟩
theorem Qf1 : ∀ (l l' : List T) (k : Nat) (R R' : List UInt8), (∀ t ∈ l, t.QpG = true) → (∀ t ∈ l', t.QpG = true) → QcE k l ++ 59 :: R = QcE k l' ++ 59 :: R' → l = l' ∧ R = R'
 | [], [], _, R, R', _, _, h => by
  simp only [QcE, QqT, List.cons.injEq, Qq1] at h
  exact ⟨rfl, h⟩
 | [], _ :: _, _, _, _, _, _, h => by simp only [QcE, QqT, QqU, List.cons.injEq] at h; exact absurd h.1 (by decide)
 | _ :: _, [], _, _, _, _, _, h => by simp only [QcE, QqT, QqU, List.cons.injEq] at h; exact absurd h.1 (by decide)
 | t :: l, t' :: l', k, R, R', H, H', h => by
  simp only [QcE, QhS, QqU, List.append_assoc, List.cons.injEq, Qq1] at h
  have h := List.append_cancel_left h
  simp only [List.cons.injEq, Qq1] at h
  obtain ⟨c, q, e, hc⟩ := Qen (k + 1) l R
  obtain ⟨c', q', e', hc'⟩ := Qen (k + 1) l' R'
  have r1 := QnA (QfQ (H t (by simp))) hc ((tl t).length + q.length + (tl t').length + q'.length + 1) q (by omega)
  have r2 := QnA (QfQ (H' t' (by simp))) hc' ((tl t).length + q.length + (tl t').length + q'.length + 1) q' (by omega)
  rw [← e] at r1
  rw [← e', ← h, r1] at r2
  injection r2 with ht hr
  obtain ⟨i1, i2⟩ := Qf1 l l' (k + 1) R R' (fun x hx => H x (by simp [hx])) (fun x hx => H' x (by simp [hx])) hr
  exact ⟨by rw [ht, i1], i2⟩
def txVF : Nat → List T → List ByteArray
 | _, [] => []
 | k, t :: l => txV k t :: txVF (k + 1) l
theorem Ql2 : ∀ (l : List T) (k : Nat), (List.range l.length).map (fun i => txV (k + i) (l.getD i T.zero)) = txVF k l
 | [], _ => rfl
 | t :: l, k => by
  rw [List.length_cons, List.range_succ_eq_map, List.map_cons, List.map_map, txVF, ← Ql2 l (k + 1)]
  congr 1
  refine List.map_congr_left fun i _ => ?_
  show txV (k + (i + 1)) ((t :: l).getD (i + 1) T.zero) = txV (k + 1 + i) (l.getD i T.zero)
  rw [show k + (i + 1) = k + 1 + i by omega]; rfl
theorem QoT (l : List T) : txVs l = txVF 0 l := by
 rw [← Ql2, txVs]
 refine List.map_congr_left fun i _ => ?_
 rw [Nat.zero_add]
theorem QiF {k : Nat} {t : T} (h : t.runOk = true) : (txV k t).data.toList = QhS k t := by
 rw [txV, Q9, Q9, txtT, if_pos h, QhS]
 show _ ++ [32, 61, 32] ++ _ = _
 simp [tl]
theorem Qbs : ∀ (l : List T) (k : Nat), (∀ t ∈ l, t.runOk = true) → Lib.joinTail [44, 32] ((txVF k l).map (·.data.toList)) = QcE k l
 | [], _, _ => rfl
 | t :: l, k, h => by
  have ih := Qbs l (k + 1) fun x hx => h x (by simp [hx])
  simp only [Lib.joinTail] at ih
  rw [txVF, QcE, ← QiF (h t (by simp)), ← ih]
  simp [Lib.joinTail]
def Qbo : List T → List UInt8
 | [] => []
 | t :: l => QhS 0 t ++ QcE 1 l
theorem Qg5 (l : List T) (h : ∀ t ∈ l, t.runOk = true) : (YU (txVs l) cmS).data.toList = Qbo l := by
 rw [QoT, YU]
 show Lib.join ((txVF 0 l).map (·.data.toList)) [44, 32] = _
 cases l with
 | nil => rfl
 | cons t l =>
  rw [txVF, List.map_cons, Lib.join_cons, Qbs l 1 fun x hx => h x (by simp [hx]), QiF (h t (by simp))]; rfl
theorem QkU {l l' : List T} {R R' : List UInt8} (H : ∀ t ∈ l, t.QpG = true) (H' : ∀ t ∈ l', t.QpG = true) (h : Qbo l ++ 59 :: R = Qbo l' ++ 59 :: R') : l = l' ∧ R = R' := by
 have hv : ∀ (t : T) (l : List T) (R : List UInt8), ∃ q, Qbo (t :: l) ++ 59 :: R = 86 :: q := fun t l R => ⟨_, by rw [Qbo, QhS, vOf, Q9]; rfl⟩
 cases l with
 | nil =>
  cases l' with
  | nil => simp only [Qbo, QqT, List.cons.injEq, Qq1] at h; exact ⟨rfl, h⟩
  | cons t l =>
   obtain ⟨q, e⟩ := hv t l R'
   rw [e] at h
   simp only [Qbo, QqT, List.cons.injEq] at h
   exact absurd h.1 (by decide)
 | cons t l =>
  cases l' with
  | nil =>
   obtain ⟨q, e⟩ := hv t l R
   rw [e] at h
   simp only [Qbo, QqT, List.cons.injEq] at h
   exact absurd h.1 (by decide)
  | cons t' l' => exact Qf1 (t :: l) (t' :: l') 0 R R' H H' (by
    have e : ∀ (t : T) (l : List T) (R : List UInt8), QcE 0 (t :: l) ++ 59 :: R = 44 :: 32 :: (Qbo (t :: l) ++ 59 :: R) := fun t l R => rfl
    rw [e, e, h])
def asT (g : G) : T := .mk 2 0 g.name g.args
theorem Qiw {g : G} (h : rightAtomB g = true) : (asT g).QpG = true := by
 have hf := XW h
 rw [rightAtomB, Bool.and_eq_true, Bool.and_eq_true, decide_eq_true_eq] at h
 rw [asT, T.QpG, if_neg (by decide), if_neg (by decide), if_pos rfl, if_neg (by have := h.2.1; omega), if_neg (by rw [h.1]; simp)]
 exact hf
theorem QiQ {g : G} (h : rightAtomB g = true) : (txtA g).data.toList = tl (asT g) := by
 have hr : XY g.name = true := by rw [rightAtomB, Bool.and_eq_true] at h; exact h.1
 have ho : opB g.name = false := by
  cases h1 : opB g.name with
  | false => rfl
  | true => rw [Qjc h1] at hr; cases hr
 rw [txtA, if_pos h, tl, Qms (t := asT g) rfl (by rw [T.oper]; split; rfl; exact Qnz ho)]; rfl
theorem QaW : ∀ l : List G, (∀ g ∈ l, rightAtomB g = true) → Lib.joinTail [44, 32] ((l.map txtA).map (·.data.toList)) = tails (l.map asT)
 | [], _ => rfl
 | g :: l, h => by
  have ih := QaW l fun x hx => h x (by simp [hx])
  simp only [Lib.joinTail] at ih
  rw [List.map_cons, List.map_cons, List.map_cons, tails, ← QiQ (h g (by simp)), ← ih]
  simp [Lib.joinTail]
def headA : List G → List UInt8
 | [] => []
 | g :: l => 32 :: ((txtA g).data.toList ++ tails (l.map asT))
theorem QkF {l l' : List T} (H : ∀ t ∈ l, t.QpG = true) (H' : ∀ t ∈ l', t.QpG = true) (h : tails l = tails l') : l = l' := by
 have r1 := QbB (s := true) l [] ((tails l).length + 1) ((tails l).length + 2) [] (fun t ht => QfQ (H t ht)) (by simp) (by simp)
 have r2 := QbB (s := true) l' [] ((tails l).length + 1) ((tails l).length + 2) [] (fun t ht => QfQ (H' t ht)) (by rw [h]; simp) (by rw [h]; simp)
 rw [← h, r1] at r2
 injection r2 with e _
theorem Ql7 : ∀ {l l' : List G}, (∀ g ∈ l, g.op = 0) → (∀ g ∈ l', g.op = 0) → l.map asT = l'.map asT → l = l'
 | [], [], _, _, _ => rfl
 | [], _ :: _, _, _, h => by simp at h
 | _ :: _, [], _, _, h => by simp at h
 | a :: l, b :: m, ha, hb, h => by
  simp only [QqH, List.cons.injEq] at h
  have h1 := ha a (by simp)
  have h2 := hb b (by simp)
  have h3 := h.1
  simp only [asT, T.mk.injEq, Qq1] at h3
  have e : a = b := by
   cases a; cases b
   simp only at h1 h2 h3
   rw [h1, h2, h3.1, h3.2]
  rw [Ql7 (fun g hg => ha g (by simp [hg])) (fun g hg => hb g (by simp [hg])) h.2, e]
theorem Qk9 {l l' : List G} (H : ∀ g ∈ l, rightAtomB g = true ∧ g.op = 0) (H' : ∀ g ∈ l', rightAtomB g = true ∧ g.op = 0) (h : headA l = headA l') : l = l' := by
 cases l with
 | nil => cases l' with
  | nil => rfl
  | cons g l => simp [headA] at h
 | cons g l => cases l' with
  | nil => simp [headA] at h
  | cons g' l' =>
   refine Ql7 (fun x hx => (H x hx).2) (fun x hx => (H' x hx).2) (QkF ?_ ?_ ?_)
   ·intro t ht; obtain ⟨x, hx, rfl⟩ := List.mem_map.1 ht; exact Qiw (H x hx).1
   ·intro t ht; obtain ⟨x, hx, rfl⟩ := List.mem_map.1 ht; exact Qiw (H' x hx).1
   ·have e : ∀ (g : G) (l : List G), rightAtomB g = true → tails ((g :: l).map asT) = 44 :: headA (g :: l) := fun g l hg => by
     rw [List.map_cons, tails, headA, QiQ hg]
    rw [e _ _ (H g (by simp)).1, e _ _ (H' g' (by simp)).1, h]
structure An.good (a : An) : Prop where
 f : a.failed = true → a.vals = [] ∧ a.store = []
 v : ∀ t ∈ a.vals, t.runOk = true
 s : ∀ g ∈ a.store, rightAtomB g = true ∧ g.op = 0
 n : a.vals.length ≤ 1000
theorem QaD {a : An} (H : a.good) (hf : a.failed = false) : (Yp a).data.toList = Qbo a.vals ++ 59 :: headA a.store := by
 have h1 : a.vals.all T.runOk = true := List.all_eq_true.2 H.v
 have h2 : a.store.all rightAtomB = true := List.all_eq_true.2 fun g hg => (H.s g hg).1
 rw [Yp, if_neg (by rw [hf]; decide), if_neg (by have := H.n; omega), if_neg (by rw [h1]; decide), if_neg (by rw [h2]; decide)]
 cases hs : a.store with
 | nil =>
  rw [if_neg (by simp), Q9, Qg5 _ H.v]; rfl
 | cons g l =>
  have hr : ∀ x ∈ l, rightAtomB x = true := fun x hx => (H.s x (by rw [hs]; simp [hx])).1
  rw [if_pos (by simp), Q9, Q9, Q9, Qg5 _ H.v, YU]
  show Qbo a.vals ++ [59] ++ ([32] ++ Lib.join (((g :: l).map txtA).map (·.data.toList)) [44, 32]) = _
  rw [List.map_cons, List.map_cons, Lib.join_cons, QaW l hr, headA]
  simp
theorem QkH {a b : An} (ha : a.good) (hb : b.good) (h : Yp a = Yp b) : a = b := by
 have h : (Yp a).data.toList = (Yp b).data.toList := by rw [h]
 have hF : ∀ {a : An}, a.failed = true → (Yp a).data.toList = [102, 97, 105, 108, 101, 100] := fun {a} hf => by rw [Yp, if_pos hf]; rfl
 have hd : ∀ (l : List T) (R : List UInt8), Qbo l ++ 59 :: R ≠ [102, 97, 105, 108, 101, 100] := fun l R e => by
  cases l with
  | nil => simp only [Qbo, QqT, List.cons.injEq] at e; exact absurd e.1 (by decide)
  | cons t l =>
   rw [Qbo, QhS, vOf, Q9] at e
   have e : (86 :: _ : List UInt8) = _ := e
   simp only [List.cons.injEq] at e
   exact absurd e.1 (by decide)
 cases fa : a.failed with
 | true =>
  cases fb : b.failed with
  | true =>
   obtain ⟨h1, h2⟩ := ha.f fa
   obtain ⟨h3, h4⟩ := hb.f fb
   cases a; cases b
   simp only at fa fb h1 h2 h3 h4
   rw [fa, fb, h1, h2, h3, h4]
  | false =>
   rw [hF fa, QaD hb fb] at h
   exact absurd h.symm (hd _ _)
 | false =>
  cases fb : b.failed with
  | true =>
   rw [hF fb, QaD ha fa] at h
   exact absurd h (hd _ _)
  | false =>
   rw [QaD ha fa, QaD hb fb] at h
   obtain ⟨h1, h2⟩ := QkU (fun t ht => Ys (ha.v t ht)) (fun t ht => Ys (hb.v t ht)) h
   have h3 := Qk9 ha.s hb.s h2
   cases a; cases b
   simp only at fa fb h1 h3
   rw [fa, fb, h1, h3]
theorem QjR {a b : An} (ha : a.good) (hb : b.good) (h : Zn a b = 0) : a = b := by
 rw [QcT] at h
 obtain ⟨h1, h2⟩ := Qdf h
 have e := Qgx (a := a.ct) (b := b.ct) ⟨QcJ fun t ht => T.QpK (Ys (ha.v t ht)), fun g hg => ⟨Zs (XW (ha.s g hg).1), (ha.s g hg).2⟩⟩ ⟨QcJ fun t ht => T.QpK (Ys (hb.v t ht)), fun g hg => ⟨Zs (XW (hb.s g hg).1), (hb.s g hg).2⟩⟩ h2
 have ef : a.failed = b.failed := by
  cases fa : a.failed <;> cases fb : b.failed
  ·rfl
  ·rw [fa, fb] at h1; simp [biI, cmpI] at h1
  ·rw [fa, fb] at h1; simp [biI, cmpI] at h1
  ·rfl
 cases a; cases b
 simp only [An.ct, Ct.mk.injEq] at e ef
 rw [ef, e.1, e.2]
end Go.Proofs.YtniljpjjnmkoaaaGreatDoor.Ab
set_option maxRecDepth 4000
namespace Go.Proofs.YtniljpjjnmkoaaaGreatDoor.Ab
open Go.Proofs
theorem Qdr {n : Int} {b : List (Int × T)} {l : List It} {failed : Bool} (H : SmallC b l) : (ofC n b l failed).1.good ∧ (ofC n b l failed).1.store.length ≤ 10 := by
 have z : An.nil.good := ⟨fun h => (by cases h), fun t ht => (by cases ht), fun g hg => (by cases hg), Nat.zero_le _⟩
 rcases Qgs n b l failed H with ⟨e, _, hr⟩ | ⟨_, hr⟩ | ⟨_, N, _, K, h6, hr⟩
 ·rw [hr]; exact ⟨z, Nat.zero_le _⟩
 ·rw [hr]; exact ⟨⟨fun _ => ⟨rfl, rfl⟩, fun t ht => (by cases ht), fun g hg => (by cases hg), Nat.zero_le _⟩, Nat.zero_le _⟩
 ·obtain ⟨KO, _⟩ := QeB K rfl h6
  rw [hr]
  have hs := KO.s
  have hl := KO.l
  have hn := KO.n
  exact ⟨⟨fun h => (by cases h), KO.r, KO.g, by rw [hl]; omega⟩, Nat.le_trans hs (by decide)⟩
theorem Qgg {a : An} (H : a.good) (h2 : a.store.length ≤ 10) (h : AH) (hG : Xj h) : Q4 Tryz.prog 23 [a.av] h fun o h' => o = .ret (.v (.string (Yp a))) ∧ h' = h :=
 Qdw a H.n (by omega) (fun g hg => by
  have h1 := Qbi (H.s g hg).1
  have h2 := QZ g.args
  omega) h hG
theorem Qpx (c d : Cs) (ho : c.ok) (hd : d.ok) (h : AH) (hG : Xj h) : Q4 Tryz.prog 7 [c.av, d.av] h fun o h' => o = .ret (.b true) ∧ h' = h := by
 have cl := QbN c ho
 have dl := QbN d hd
 have ce := fun L => Z1 (h ++ L) (hG.onto L)
 cases kc : c.big with
 | true =>
  rw [kc] at cl
  refine Qe Tryz.func7 rfl Tryz.call7 Tryz.ntmps7 (congrArg Array.toList Tryz.results7) (by simp) ?_
  repeat (first | ((first | (with_reducible (first | refine Qa fun K E hK hE => ?_ | refine Qq cl ?_ | refine FunW.ret (FunW.call (ce _)) ?_))); simp -implicitDefEqProofs only [Qg, Qh, OpW, QI, aop, undef, AS.ev, Qy, AV.QpF, ↓reduceIte, QC, QD, ti26, Cs.cells, Cs.isAgg, seval]) | (with_reducible (first | refine Qc fun K hK => ?_ | refine Qj ?_ | refine Qo ?_)) | ((with_reducible refine hK _ ?_); clear hK) | (refine Qf rfl ?_; simp only [↓reduceIte]))
  simp only [QE, Ql, Qr, upd, ↓reduceIte, Qqy, QqC]; first | refine Qd (htake _ _) (.keep (.v _)) ⟨rfl, rfl⟩ | refine Qd List.take_length (.keep (.v _)) ⟨rfl, rfl⟩
 | false =>
  rw [kc] at cl
  cases kd : d.big with
  | true =>
   rw [kd] at dl
   refine Qe Tryz.func7 rfl Tryz.call7 Tryz.ntmps7 (congrArg Array.toList Tryz.results7) (by simp) ?_
   repeat (first | ((first | (with_reducible (first | refine Qa fun K E hK hE => ?_ | refine Qq cl ?_ | refine Qq dl ?_ | refine FunW.ret (FunW.call (ce _)) ?_))); simp -implicitDefEqProofs only [Qg, Qh, OpW, QI, aop, undef, AS.ev, Qy, AV.QpF, ↓reduceIte, QC, QD, ti26, Cs.cells, Cs.isAgg, seval]) | (with_reducible (first | refine Qc fun K hK => ?_ | refine Qj ?_ | refine Qo ?_)) | ((with_reducible refine hK _ ?_); clear hK) | (refine Qf rfl ?_; simp only [↓reduceIte]))
   simp only [QE, Ql, Qr, upd, ↓reduceIte, Qqy, QqC]; first | refine Qd (htake _ _) (.keep (.v _)) ⟨rfl, rfl⟩ | refine Qd List.take_length (.keep (.v _)) ⟨rfl, rfl⟩
  | false =>
   rw [kd] at dl
   obtain ⟨hv, H⟩ := Cs.small ho kc
   obtain ⟨hv', H'⟩ := Cs.small hd kd
   have c1 := Qan c.vars c.b c.l c.failed H
   have c2 := Qan d.vars d.b d.l d.failed H'
   obtain ⟨g1, s3⟩ := Qdr (n := c.vars) (failed := c.failed) H
   obtain ⟨g2, s4⟩ := Qdr (n := d.vars) (failed := d.failed) H'
   obtain ⟨s1, s2⟩ := Qhu (n := c.vars) c.failed H
   generalize ofC c.vars c.b c.l c.failed = r at *
   generalize ofC d.vars d.b d.l d.failed = q at *
   obtain ⟨a, e⟩ := r
   obtain ⟨b, f⟩ := q
   dsimp only at *
   have t1 := fun hx hq => Qgg g1 s3 hx hq
   have t2 := fun hx hq => Qgg g2 s4 hx hq
   have k1 := Qhk a b (by omega) (by omega)
   have heq : (((Yp a).toList == (Yp b).toList) == (Zn a b == 0)) = true := by
    by_cases hab : a = b
    ·subst hab
     rw [Qj8]; simp
    ·have h1 : ((Yp a).toList == (Yp b).toList) = false := by
      rw [beq_eq_false_iff_ne]
      intro h
      rw [Lib.toList_data, Lib.toList_data] at h
      exact hab (QkH g1 g2 (by rw [← Qav (Yp a), h, Qav]))
     have h2 : (Zn a b == 0) = false := by
      rw [beq_eq_false_iff_ne]; exact fun h => hab (QjR g1 g2 h)
     rw [h1, h2]; rfl
   by_cases he : e = 0
   ·by_cases hf : f = 0
    ·subst he; subst hf
     have zn : ((0 : Int) != 0) = false := rfl
     refine Qe Tryz.func7 rfl Tryz.call7 Tryz.ntmps7 (congrArg Array.toList Tryz.results7) (by simp) ?_
     repeat (first | ((first | (with_reducible (first | refine Qa fun K E hK hE => ?_ | refine Qq cl ?_ | refine Qq dl ?_ | refine Qq c1 ?_ | refine Qq c2 ?_))); simp -implicitDefEqProofs only [Qg, Qh, OpW, QI, aop, undef, AS.ev, Qy, AV.QpF, ↓reduceIte, Qp, QC, QD, QL, QF, aBin, Xd, ti3, ti4, ti23, ti24, ti26, Qak, ZP, ZQ, QcZ, ti32, zi32, Cs.cells, Cs.isAgg, An.cells, An.isAgg, seval]) | (with_reducible (first | refine Qc fun K hK => ?_ | refine Qk ?_ | refine Qb ?_)) | ((with_reducible refine hK _ ?_); clear hK) | (refine Qf rfl ?_; simp only [↓reduceIte, Qqw]))
     obtain ⟨I, hI⟩ : ∃ I : AS → Prop, I = fun s => s.tm 5 = .ptr (h.length + 2) 0 0 ∧ s.tm 7 = .ptr (h.length + 3) 0 0 ∧ s.h = h ++ [.cells 26 4 [c.av], .cells 26 4 [d.av], .cells 32 3 [a.av], .cells 32 3 [b.av]] := ⟨_, rfl⟩; refine Qbp I ?_ ?_
     ·intro s hs; rw [hI] at hs; obtain ⟨tm, hp⟩ := s; dsimp only at hs; obtain ⟨t5, t7, rfl⟩ := hs
      clear cl dl c1 c2
      have hbb : ∀ p q xo yo, pv Tryz.prog (do eqGuard .eql 4 xo yo (.bool p) (.bool q); binOp .eql 4 (.bool p) (.bool q)) = some (.bool (p == q)) := by intro p q xo yo; cases p <;> cases q <;> rfl
      repeat (first | ((first | (with_reducible (first | refine Qu k1 ?_ | refine ZB (fun hx hk => FunW.call (t1 hx ((hG.onto _).kept hk))) ?_ | refine ZB (fun hx hk => FunW.call (t2 hx ((hG.onto _).kept hk))) ?_ | refine ZB (fun hx hk => FunW.call (Z1 hx ((hG.onto _).kept hk))) ?_)) | (refine QH (id := 7) [(0, 0), (1, 0), (2, 0), (3, 0), (4, 0), (5, 0), (6, 0), (7, 1), (8, 0), (9, 0), (10, 0), (11, 0), (12, 0)] mixed (by kernel_rfl) fun K hK => ?_)); simp -implicitDefEqProofs only [Qg, Qh, aop, AS.ev, ↓reduceIte, QC, QD, aBin, ti32, t5, t7, hbb, heq, An.cells, An.isAgg, seval]) | (with_reducible (first | refine Qj ?_ | refine Qb ?_)) | ((with_reducible refine hK _ ?_); clear hK))
      simp only [QE, Ql, Qr, upd, ↓reduceIte, Qqy, QqC]; first | refine Qd (htake _ _) (.keep (.v _)) ⟨rfl, rfl⟩ | refine Qd List.take_length (.keep (.v _)) ⟨rfl, rfl⟩
     ·rw [hI]
      exact ⟨rfl, rfl, rfl⟩
    ·have zf : (f != 0) = true := by simpa using hf
     subst he
     have zn : ((0 : Int) != 0) = false := rfl
     refine Qe Tryz.func7 rfl Tryz.call7 Tryz.ntmps7 (congrArg Array.toList Tryz.results7) (by simp) ?_
     repeat (first | ((first | (with_reducible (first | refine Qa fun K E hK hE => ?_ | refine Qq cl ?_ | refine Qq dl ?_ | refine Qq c1 ?_ | refine Qq c2 ?_ | refine FunW.ret (FunW.call (ce _)) ?_))); simp -implicitDefEqProofs only [Qg, Qh, OpW, QI, aop, undef, AS.ev, Qy, AV.QpF, ↓reduceIte, Qp, QC, QD, QL, QF, aBin, Xd, ti3, ti4, ti23, ti24, ti26, Qak, ZP, ZQ, QcZ, ti32, zi32, Cs.cells, Cs.isAgg, An.cells, An.isAgg, zf, seval]) | (with_reducible (first | refine Qc fun K hK => ?_ | refine Qj ?_ | refine Qk ?_ | refine Qb ?_ | refine Qo ?_)) | ((with_reducible refine hK _ ?_); clear hK) | (refine Qf rfl ?_; simp only [↓reduceIte, Qqw]))
     simp only [QE, Ql, Qr, upd, ↓reduceIte, Qqy, QqC]; first | refine Qd (htake _ _) (.keep (.v _)) ⟨rfl, rfl⟩ | refine Qd List.take_length (.keep (.v _)) ⟨rfl, rfl⟩
   ·have ze : (e != 0) = true := by simpa using he
    refine Qe Tryz.func7 rfl Tryz.call7 Tryz.ntmps7 (congrArg Array.toList Tryz.results7) (by simp) ?_
    repeat (first | ((first | (with_reducible (first | refine Qa fun K E hK hE => ?_ | refine Qq cl ?_ | refine Qq dl ?_ | refine Qq c1 ?_ | refine Qq c2 ?_ | refine FunW.ret (FunW.call (ce _)) ?_))); simp -implicitDefEqProofs only [Qg, Qh, OpW, QI, aop, undef, AS.ev, Qy, AV.QpF, ↓reduceIte, Qp, QC, QD, QL, QF, aBin, Xd, ti3, ti4, ti23, ti24, ti26, Qak, ZP, ZQ, QcZ, ti32, zi32, Cs.cells, Cs.isAgg, An.cells, An.isAgg, ze, seval]) | (with_reducible (first | refine Qc fun K hK => ?_ | refine Qj ?_ | refine Qk ?_ | refine Qb ?_ | refine Qo ?_)) | ((with_reducible refine hK _ ?_); clear hK) | (refine Qf rfl ?_; simp only [↓reduceIte, Qqw]))
    simp only [QE, Ql, Qr, upd, ↓reduceIte, Qqy, QqC]; first | refine Qd (htake _ _) (.keep (.v _)) ⟨rfl, rfl⟩ | refine Qd List.take_length (.keep (.v _)) ⟨rfl, rfl⟩
end Go.Proofs.YtniljpjjnmkoaaaGreatDoor.Ab
