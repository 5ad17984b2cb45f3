/-
  Contracts of functions, and laws of terms.
-/
import Derived.Test.YtplnbmldkgcedaaAbWy
import Derived.Test.YtplnbmldkgcedaaAbWq
import Derived.Test.YtplnbmldkgcedaaAbWl
set_option linter.unusedVariables false
set_option maxHeartbeats 4000000
set_option linter.unusedSimpArgs false
namespace Go.Proofs.Ytplnbmldkgcedaa.Ab

/-! the least number above all: of the set alone -/
theorem tops_ge : ∀ (n : Int) (l : List Int), n ≤ tops n l
  | n, [] => Int.le_refl n
  | n, v :: l => by
    have := tops_ge (if sumI v 1 > n then sumI v 1 else n) l
    simp only [tops]
    split at this <;> (split <;> omega)
theorem tops_mem : ∀ (n : Int) (l : List Int) (v : Int), v ∈ l → sumI v 1 ≤ tops n l
  | n, w :: l, v, h => by
    simp only [tops]
    rcases List.mem_cons.1 h with rfl | h
    · have := tops_ge (if sumI v 1 > n then sumI v 1 else n) l
      split at this <;> (split <;> omega)
    · exact tops_mem _ l v h
theorem tops_is : ∀ (n : Int) (l : List Int), tops n l = n ∨ ∃ v ∈ l, tops n l = sumI v 1
  | n, [] => .inl rfl
  | n, w :: l => by
    simp only [tops]
    rcases tops_is (if sumI w 1 > n then sumI w 1 else n) l with h | ⟨v, hv, h⟩
    · rw [h]
      split
      · exact .inr ⟨w, by simp, rfl⟩
      · exact .inl rfl
    · exact .inr ⟨v, by simp [hv], h⟩
theorem tops_same {n : Int} {l l' : List Int} (h : ∀ v, v ∈ l ↔ v ∈ l') : tops n l = tops n l' := by
  have key : ∀ l l' : List Int, (∀ v, v ∈ l ↔ v ∈ l') → tops n l ≤ tops n l' := by
    intro l l' h
    rcases tops_is n l with e | ⟨v, hv, e⟩
    · rw [e]; exact tops_ge n l'
    · rw [e]; exact tops_mem n l' v ((h v).1 hv)
  have h1 := key l l' h
  have h2 := key l' l (fun v => (h v).symm)
  omega
theorem tops_occ (l : List T) : tops 0 (l.flatMap occ) = tops 0 (ded [] (varss l)) := by
  refine tops_same fun v => ?_
  rw [mem_ded, varss_flat]
  simp only [List.mem_flatMap, occ, mem_ded, List.not_mem_nil, false_or]

/-! when terms compare equal -/
inductive NF where
  | var (n : Int)
  | int (n : Int)
  | app (s : List UInt8) (l : List NF)
  | other (k n : Int) (s : List UInt8)

mutual
def T.nf : T → NF
  | .mk k i n l => if k = 1 then .var i else if k = 0 then .int i else if k = 2 then .app n.toList (nfs l) else .other k i n.toList
def nfs : List T → List NF
  | [] => []
  | t :: l => t.nf :: nfs l
end
theorem nfs_length : ∀ l : List T, (nfs l).length = l.length
  | [] => rfl
  | t :: l => by simp only [nfs, List.length_cons, nfs_length l]
theorem cmpI_zero {a b : Int} : cmpI a b = 0 ↔ a = b := by
  unfold cmpI
  split
  · constructor
    · intro h; omega
    · intro h; omega
  · split
    · constructor
      · intro h; omega
      · intro h; omega
    · constructor
      · intro _; omega
      · intro _; rfl
theorem cmpS_zero {a b : ByteArray} : cmpS a b = 0 ↔ a.toList = b.toList := by
  unfold cmpS
  cases h : Op.bytesLess a.toList b.toList with
  | true =>
    simp only [if_true]
    constructor
    · intro h; omega
    · intro e; rw [e, bytesLess_self] at h; cases h
  | false =>
    simp only [Bool.false_eq_true, if_false, Bool.false_or]
    by_cases e : a.toList = b.toList
    · simp [e]
    · simp [e]
theorem rankK_cases (k : Int) : (k = 1 ∧ rankK k = 0) ∨ (k = 0 ∧ rankK k = 1) ∨ (k = 2 ∧ rankK k = 2) ∨ (k ≠ 0 ∧ k ≠ 1 ∧ k ≠ 2 ∧ rankK k = 3) := by
  unfold rankK
  by_cases h1 : k = 1
  · simp [h1]
  · by_cases h0 : k = 0
    · simp [h0]
    · by_cases h2 : k = 2
      · simp [h2]
      · simp [h0, h1, h2]
theorem ne0 {a : Int} : (a != 0) = true ↔ a ≠ 0 := by simp
theorem or3_zero {a b c : Int} : or3 a b c = 0 ↔ a = 0 ∧ b = 0 ∧ c = 0 := by
  simp only [or3, orL, bne_iff_ne, ne_eq, ite_not]
  by_cases ha : a = 0 <;> by_cases hb : b = 0 <;> by_cases hc : c = 0 <;> simp [ha, hb, hc]

mutual
theorem cmpT_zero : ∀ (a b : T), cmpT a b = 0 ↔ a.nf = b.nf
  | .mk k i n l, .mk k' i' n' l' => by
    have hl := cmpL_zero l l'
    simp only [cmpT, T.nf]
    rcases rankK_cases k with ⟨rfl, r1⟩ | ⟨rfl, r1⟩ | ⟨rfl, r1⟩ | ⟨h0, h1, h2, r1⟩ <;> rcases rankK_cases k' with ⟨rfl, r2⟩ | ⟨rfl, r2⟩ | ⟨rfl, r2⟩ | ⟨g0, g1, g2, r2⟩ <;> simp only [r1, r2]
    · simp [cmpI, NF.var.injEq, ← cmpI_zero (a := i)]
    · simp [cmpI]
    · simp [cmpI]
    · simp [cmpI, g0, g1, g2]
    · simp [cmpI]
    · simp [cmpI, NF.int.injEq, ← cmpI_zero (a := i)]
    · simp [cmpI]
    · simp [cmpI, g0, g1, g2]
    · simp [cmpI]
    · simp [cmpI]
    · have hlen' : nfs l = nfs l' → (l.length : Int) = l'.length := fun e => by have := congrArg List.length e; rw [nfs_length, nfs_length] at this; omega
      by_cases c1 : cmpI l.length l'.length = 0
      · by_cases c2 : cmpS n n' = 0
        · simp [cmpI_self, c1, c2, hl, cmpS_zero.1 c2]
        · have : n.toList ≠ n'.toList := fun e => c2 (cmpS_zero.2 e)
          simp [cmpI_self, c1, c2, this]
      · have : nfs l ≠ nfs l' := fun e => c1 (cmpI_zero.2 (hlen' e))
        simp [cmpI_self, c1, this]
    · simp [cmpI, g0, g1, g2]
    · simp [cmpI, h0, h1, h2]
    · simp [cmpI, h0, h1, h2]
    · simp [cmpI, h0, h1, h2]
    · simp [cmpI_self, or3_zero, cmpI_zero, cmpS_zero, h0, h1, h2, g0, g1, g2]
theorem cmpL_zero : ∀ (a b : List T), cmpL a b = 0 ↔ nfs a = nfs b
  | [], [] => by simp [cmpL]
  | [], b :: m => by simp [cmpL, nfs]
  | a :: l, [] => by simp [cmpL, nfs]
  | a :: l, b :: m => by
    simp only [cmpL, nfs, List.cons.injEq, ← cmpT_zero a b, ← cmpL_zero l m]
    by_cases h : cmpT a b = 0
    · simp [h]
    · simp [h]
end

open Classical in
theorem eqB_iff (a b : List T) : eqB a b = decide (nfs a = nfs b) := by
  have h := cmpL_zero a b
  unfold eqB
  by_cases hl : a.length = b.length
  · by_cases he : nfs a = nfs b
    · simp [hl, he, h.2 he]
    · have : cmpL a b ≠ 0 := fun e => he (h.1 e)
      simp [hl, he, this]
  · have : nfs a ≠ nfs b := fun e => hl (by have := congrArg List.length e; rwa [nfs_length, nfs_length] at this)
    simp [hl, this]

/-! renamings -/
mutual
theorem T.vars_map (f : Int → Int) : ∀ t : T, (t.map f).vars = t.vars.map f
  | .mk k i n l => by
    simp only [T.map, T.vars]
    by_cases h1 : k = 1
    · simp [h1, T.vars]
    · by_cases h2 : k = 2
      · simp [h1, h2, T.vars, varss_maps f l]
      · simp [h1, h2, T.vars]
theorem varss_maps (f : Int → Int) : ∀ l : List T, varss (maps f l) = (varss l).map f
  | [] => rfl
  | t :: l => by simp only [maps, varss, T.vars_map f t, varss_maps f l, List.map_append]
end
mutual
theorem T.map_map (f g : Int → Int) : ∀ t : T, (t.map g).map f = t.map fun n => f (g n)
  | .mk k i n l => by
    simp only [T.map]
    by_cases h1 : k = 1
    · simp [h1, T.map]
    · by_cases h2 : k = 2
      · simp [h1, h2, T.map, maps_maps f g l]
      · simp [h1, h2, T.map]
theorem maps_maps (f g : Int → Int) : ∀ l : List T, maps f (maps g l) = maps (fun n => f (g n)) l
  | [] => rfl
  | t :: l => by simp only [maps, T.map_map f g t, maps_maps f g l]
end
mutual
theorem T.map_congr {f g : Int → Int} : ∀ t : T, (∀ v ∈ t.vars, f v = g v) → t.map f = t.map g
  | .mk k i n l, h => by
    simp only [T.vars] at h
    simp only [T.map]
    by_cases h1 : k = 1
    · simp [h1] at h; simp [h1, h]
    · by_cases h2 : k = 2
      · simp [h1, h2] at h; simp [h1, h2, maps_congr l h]
      · simp [h1, h2]
theorem maps_congr {f g : Int → Int} : ∀ l : List T, (∀ v ∈ varss l, f v = g v) → maps f l = maps g l
  | [], _ => rfl
  | t :: l, h => by
    simp only [varss, List.mem_append] at h
    simp only [maps, T.map_congr t fun v hv => h v (.inl hv), maps_congr l fun v hv => h v (.inr hv)]
end
mutual
theorem T.map_id : ∀ t : T, (t.map fun n => n) = t
  | .mk k i n l => by
    simp only [T.map]
    by_cases h1 : k = 1
    · simp [h1]
    · by_cases h2 : k = 2
      · simp [h1, h2, maps_id l]
      · simp [h1, h2]
theorem maps_id : ∀ l : List T, maps (fun n => n) l = l
  | [] => rfl
  | t :: l => by simp only [maps, T.map_id t, maps_id l]
end

def InjOn (f : Int → Int) (l : List Int) : Prop := ∀ a ∈ l, ∀ b ∈ l, f a = f b → a = b
theorem ded_map {f : Int → Int} : ∀ (s l : List Int), InjOn f (s ++ l) → ded (s.map f) (l.map f) = (ded s l).map f
  | s, [], _ => rfl
  | s, n :: l, h => by
    have hmem : f n ∈ s.map f ↔ n ∈ s := by
      constructor
      · intro hm
        obtain ⟨a, ha, e⟩ := List.mem_map.1 hm
        rw [← h a (by simp [ha]) n (by simp) e]; exact ha
      · exact fun hm => List.mem_map_of_mem hm
    have hins : ins (s.map f) (f n) = (ins s n).map f := by
      unfold ins
      by_cases hm : n ∈ s
      · rw [if_pos (hmem.2 hm), if_pos hm]
      · rw [if_neg (fun e => hm (hmem.1 e)), if_neg hm, List.map_append]; rfl
    simp only [List.map_cons, ded, hins]
    refine ded_map (ins s n) l fun a ha b hb => ?_
    have key : ∀ x, x ∈ ins s n ++ l → x ∈ s ++ n :: l := fun x hx => by
      rcases List.mem_append.1 hx with hx | hx
      · rcases mem_ins.1 hx with hx | rfl
        · simp [hx]
        · simp
      · simp [hx]
    exact h a (key a ha) b (key b hb)
theorem plc_map {f : Int → Int} {n : Int} : ∀ (s : List Int), InjOn f (n :: s) → plc (s.map f) (f n) = plc s n
  | [], _ => rfl
  | a :: s, h => by
    simp only [List.map_cons, plc]
    by_cases e : a = n
    · simp [e]
    · rw [if_neg e, if_neg (fun e' => e (h a (by simp) n (by simp) e'))]
      rw [plc_map s fun x hx y hy => h x (by simp at hx ⊢; rcases hx with hx | hx <;> simp [hx]) y (by simp at hy ⊢; rcases hy with hy | hy <;> simp [hy])]

theorem numbered_map {f : Int → Int} (l : List T) (h : InjOn f (varss l)) : numbered (maps f l) = numbered l := by
  unfold numbered
  rw [varss_maps, maps_maps]
  have e := ded_map [] (varss l) (by simpa using h)
  simp only [List.map_nil] at e
  rw [e]
  refine maps_congr l fun v hv => ?_
  rw [plc_map]
  intro a ha b hb
  have key : ∀ x, x ∈ v :: ded [] (varss l) → x ∈ varss l := fun x hx => by
    rcases List.mem_cons.1 hx with rfl | hx
    · exact hv
    · rcases mem_ded.1 hx with hx | hx
      · cases hx
      · exact hx
  exact h a (key a ha) b (key b hb)
theorem numbered_inj (l : List T) : InjOn (gP (ded [] (varss l))) (varss l) := by
  intro a ha b hb e
  have ha' : a ∈ ded [] (varss l) := mem_ded.2 (.inr ha)
  have hb' : b ∈ ded [] (varss l) := mem_ded.2 (.inr hb)
  have h1 := plc_mem ha'
  have h2 := plc_mem hb'
  have e' : plc (ded [] (varss l)) a = plc (ded [] (varss l)) b := by unfold gP at e; omega
  rw [← h1, ← h2]
  congr 1
theorem numbered_again (l : List T) : numbered (numbered l) = numbered l := numbered_map (f := gP (ded [] (varss l))) l (numbered_inj l)
end Go.Proofs.Ytplnbmldkgcedaa.Ab
