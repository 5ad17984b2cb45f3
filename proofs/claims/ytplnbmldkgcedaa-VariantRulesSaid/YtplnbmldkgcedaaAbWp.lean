/-
  Plain laws of the variables of terms.
-/
import Derived.Test.YtplnbmldkgcedaaAbWi
import Derived.Test.YtplnbmldkgcedaaAbWf
import Derived.Test.YtplnbmldkgcedaaAbThree
set_option linter.unusedSimpArgs false
set_option linter.unusedVariables false
set_option maxHeartbeats 4000000
namespace Go.Proofs.Ytplnbmldkgcedaa.Ab

mutual
theorem T.walk_gSeen : ∀ (s : List Int) (t : T), T.walk gSeen s t = (true, ded s t.vars)
  | s, .mk k i n l => by
    simp only [T.walk, T.vars]
    split
    · rfl
    · split
      · exact walks_gSeen s l
      · rfl
theorem walks_gSeen : ∀ (s : List Int) (l : List T), walks gSeen s l = (true, ded s (varss l))
  | s, [] => rfl
  | s, t :: l => by simp only [walks, varss, T.walk_gSeen s t, if_true, walks_gSeen _ l, ded_append]
end

mutual
theorem T.vars_ok : ∀ (t : T), t.ok → ∀ v ∈ t.vars, i64 v
  | .mk k i n l, h, v, hv => by
    simp only [T.ok] at h
    simp only [T.vars] at hv
    split at hv
    · simp at hv; subst hv; exact h.2.1
    · split at hv
      · exact varss_ok l h.2.2.2 v hv
      · simp at hv
theorem varss_ok : ∀ (l : List T), oks l → ∀ v ∈ varss l, i64 v
  | [], _, v, hv => by simp [varss] at hv
  | t :: l, h, v, hv => by
    simp only [varss, List.mem_append] at hv
    rcases hv with hv | hv
    · exact T.vars_ok t h.1 v hv
    · exact varss_ok l h.2 v hv
end
mutual
theorem T.vars_length : ∀ (t : T), t.vars.length ≤ t.nds
  | .mk k i n l => by
    simp only [T.vars, T.nds]
    split
    · simp
    · split
      · have := varss_length l; omega
      · simp
theorem varss_length : ∀ (l : List T), (varss l).length ≤ ndsL l
  | [] => by simp [varss, ndsL]
  | t :: l => by
    have h1 := T.vars_length t
    have h2 := varss_length l
    simp only [varss, ndsL, List.length_append]; omega
end

/-! numbering -/
def gNum : List Int → Int → Int × List Int := fun s n => ((plc (ins s n) n : Nat), ins s n)

mutual
theorem T.mapS_gNum : ∀ (s : List Int) (t : T) (r : List Int), T.mapS gNum s t = (t.map fun n => ((plc (ded s t.vars ++ r) n : Nat) : Int), ded s t.vars)
  | s, .mk k i n l, r => by
    simp only [T.mapS, T.map, T.vars]
    split
    · rename_i h
      simp only [gNum, ded]
      rw [plc_append r (mem_ins.2 (.inr rfl))]
    · split
      · rw [mapsS_gNum s l r]
      · rfl
theorem mapsS_gNum : ∀ (s : List Int) (l : List T) (r : List Int), mapsS gNum s l = (maps (fun n => ((plc (ded s (varss l) ++ r) n : Nat) : Int)) l, ded s (varss l))
  | s, [], r => rfl
  | s, t :: l, r => by
    obtain ⟨q, hq⟩ := ded_pre (ded s t.vars) (varss l)
    simp only [mapsS, maps, varss]
    rw [T.mapS_gNum s t (q ++ r)]
    simp only
    rw [mapsS_gNum _ l r]
    simp only [ded_append, hq, List.append_assoc]
end
theorem mapsS_num (l : List T) : mapsS gNum [] l = (maps (fun n => ((plc (ded [] (varss l)) n : Nat) : Int)) l, ded [] (varss l)) := by
  have := mapsS_gNum [] l []
  rwa [List.append_nil] at this

/-! the least number above -/
def tops : Int → List Int → Int
  | n, [] => n
  | n, v :: l => tops (if sumI v 1 > n then sumI v 1 else n) l
theorem tops_append : ∀ (n : Int) (l r : List Int), tops n (l ++ r) = tops (tops n l) r
  | n, [], r => rfl
  | n, v :: l, r => by simp only [List.cons_append, tops, tops_append]
theorem tops_max : ∀ (l : List Int), (∀ v ∈ l, i64 v) → tops 9223372036854775807 l = 9223372036854775807
  | [], _ => rfl
  | v :: l, h => by
    have h1 := sumI_ok (h v (by simp)) (show i64 1 by unfold i64; omega)
    unfold i64 at h1
    simp only [tops]
    rw [if_neg (by omega)]
    exact tops_max l fun v hv => h v (by simp [hv])
theorem tops_ok {n : Int} (hn : i64 n) : ∀ {l : List Int}, (∀ v ∈ l, i64 v) → i64 (tops n l)
  | [], _ => hn
  | v :: l, h => by
    simp only [tops]
    split
    · exact tops_ok (sumI_ok (h v (by simp)) (by unfold i64; omega)) fun v hv => h v (by simp [hv])
    · exact tops_ok hn fun v hv => h v (by simp [hv])

mutual
theorem T.map_ok {g : Int → Int} (hg : ∀ n, i64 n → i64 (g n)) : ∀ {t : T}, t.ok → (t.map g).ok
  | .mk k i n l, h => by
    simp only [T.ok] at h
    simp only [T.map]
    split
    · simp only [T.ok]; exact ⟨h.1, hg _ h.2.1, h.2.2⟩
    · split
      · simp only [T.ok]; exact ⟨h.1, h.2.1, h.2.2.1, maps_ok hg h.2.2.2⟩
      · simp only [T.ok]; exact h
theorem maps_ok {g : Int → Int} (hg : ∀ n, i64 n → i64 (g n)) : ∀ {l : List T}, oks l → oks (maps g l)
  | [], _ => trivial
  | t :: l, h => by simp only [maps, oks]; exact ⟨T.map_ok hg h.1, maps_ok hg h.2⟩
end
mutual
theorem T.map_nds {g : Int → Int} : ∀ (t : T), (t.map g).nds = t.nds
  | .mk k i n l => by
    simp only [T.map]
    split
    · simp only [T.nds]
    · split
      · simp only [T.nds, maps_nds l]
      · rfl
theorem maps_nds {g : Int → Int} : ∀ (l : List T), ndsL (maps g l) = ndsL l
  | [] => rfl
  | t :: l => by simp only [maps, ndsL, T.map_nds t, maps_nds l]
end
end Go.Proofs.Ytplnbmldkgcedaa.Ab
