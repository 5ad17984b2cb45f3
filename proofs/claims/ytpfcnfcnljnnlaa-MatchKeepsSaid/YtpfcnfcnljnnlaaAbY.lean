/-
  Plain laws of terms: the variables in the order of their first occurrence, places, renamings.
-/
import Derived.Test.YtpfcnfcnljnnlaaAbThree
set_option linter.unusedVariables false
set_option maxHeartbeats 4000000
namespace Go.Proofs.Ytpfcnfcnljnnlaa.Ab

mutual
/-- the occurrences of variables -/
def T.vars : T → List Int
  | .mk k i _ l => if k = 1 then [i] else if k = 2 then varss l else []
def varss : List T → List Int
  | [] => []
  | t :: l => t.vars ++ varss l
end
theorem varss_append : ∀ l r : List T, varss (l ++ r) = varss l ++ varss r
  | [], r => rfl
  | t :: l, r => by simp only [List.cons_append, varss, varss_append l r, List.append_assoc]
theorem varss_flat : ∀ l : List T, varss l = l.flatMap T.vars
  | [] => rfl
  | t :: l => by simp only [varss, List.flatMap_cons, varss_flat l]

def ins (s : List Int) (n : Int) : List Int := if n ∈ s then s else s ++ [n]
def ded : List Int → List Int → List Int
  | s, [] => s
  | s, n :: l => ded (ins s n) l
theorem ded_append : ∀ s l r : List Int, ded s (l ++ r) = ded (ded s l) r
  | s, [], r => rfl
  | s, n :: l, r => by simp only [List.cons_append, ded, ded_append]
theorem ins_pre (s : List Int) (n : Int) : ∃ r, ins s n = s ++ r := by
  unfold ins
  split
  · exact ⟨[], by simp⟩
  · exact ⟨[n], rfl⟩
theorem ded_pre : ∀ s l : List Int, ∃ r, ded s l = s ++ r
  | s, [] => ⟨[], by simp [ded]⟩
  | s, n :: l => by
    obtain ⟨r, h⟩ := ins_pre s n
    obtain ⟨r', h'⟩ := ded_pre (ins s n) l
    exact ⟨r ++ r', by rw [ded, h', h, List.append_assoc]⟩
theorem mem_ins {s : List Int} {n v : Int} : v ∈ ins s n ↔ v ∈ s ∨ v = n := by
  unfold ins
  split
  · rename_i h
    exact ⟨.inl, fun h' => h'.elim id (fun e => e ▸ h)⟩
  · simp
theorem mem_ded : ∀ {s l : List Int} {v : Int}, v ∈ ded s l ↔ v ∈ s ∨ v ∈ l
  | s, [], v => by simp [ded]
  | s, n :: l, v => by
    simp only [ded, mem_ded (l := l), mem_ins, List.mem_cons, or_assoc]
theorem nodup_ins {s : List Int} {n : Int} (h : s.Nodup) : (ins s n).Nodup := by
  unfold ins
  split
  · exact h
  · rename_i hn
    rw [List.nodup_append]
    exact ⟨h, by simp, fun a ha b hb e => by simp at hb; subst hb; subst e; exact hn ha⟩
theorem nodup_ded : ∀ {s l : List Int}, s.Nodup → (ded s l).Nodup
  | s, [], h => h
  | s, n :: l, h => nodup_ded (l := l) (nodup_ins h)
theorem ins_length (s : List Int) (n : Int) : (ins s n).length ≤ s.length + 1 := by
  unfold ins
  split
  · omega
  · simp
theorem ded_length : ∀ s l : List Int, (ded s l).length ≤ s.length + l.length
  | s, [] => by simp [ded]
  | s, n :: l => by
    have h1 := ded_length (ins s n) l
    have h2 := ins_length s n
    simp only [ded, List.length_cons]
    omega

/-- the place of a number; the length, if it is not there -/
def plc : List Int → Int → Nat
  | [], _ => 0
  | a :: l, n => if a = n then 0 else plc l n + 1
theorem plc_append {n : Int} : ∀ {s : List Int} (r : List Int), n ∈ s → plc (s ++ r) n = plc s n
  | a :: s, r, h => by
    simp only [List.cons_append, plc]
    split
    · rfl
    · rename_i hne
      rw [plc_append r (by rcases List.mem_cons.1 h with h | h; exact absurd h.symm hne; exact h)]
theorem plc_new {n : Int} : ∀ {s : List Int}, n ∉ s → plc s n = s.length
  | [], _ => rfl
  | a :: s, h => by
    simp only [List.mem_cons, not_or] at h
    simp only [plc, if_neg (fun e : a = n => h.1 e.symm), plc_new h.2, List.length_cons]
theorem plc_new_append {n : Int} {s : List Int} (r : List Int) (h : n ∉ s) : plc (s ++ n :: r) n = s.length := by
  induction s with
  | nil => simp [plc]
  | cons a s ih =>
    simp only [List.mem_cons, not_or] at h
    simp only [List.cons_append, plc, if_neg (fun e : a = n => h.1 e.symm), ih h.2, List.length_cons]
theorem plc_lt {n : Int} : ∀ {s : List Int}, n ∈ s → plc s n < s.length
  | a :: s, h => by
    simp only [plc, List.length_cons]
    split
    · omega
    · rename_i hne
      have := plc_lt (s := s) (n := n) (by rcases List.mem_cons.1 h with h | h; exact absurd h.symm hne; exact h)
      omega
theorem plc_get {n : Int} : ∀ {s : List Int} (h : plc s n < s.length), s[plc s n] = n
  | a :: s, h => by
    simp only [plc] at h ⊢
    by_cases e : a = n
    · simp [e]
    · simp only [if_neg e, List.length_cons] at h ⊢
      simp only [List.getElem_cons_succ]
      exact plc_get (by omega)
theorem plc_mem {n : Int} {s : List Int} (h : n ∈ s) : s[plc s n]'(plc_lt h) = n := plc_get _
theorem get_plc : ∀ {s : List Int} {i : Nat} (hn : s.Nodup) (h : i < s.length), plc s s[i] = i
  | a :: s, 0, hn, h => by simp [plc]
  | a :: s, i + 1, hn, h => by
    rw [List.nodup_cons] at hn
    have hi : i < s.length := by simpa using h
    have hne : a ≠ s[i] := fun e => hn.1 (e ▸ List.getElem_mem hi)
    simp only [List.getElem_cons_succ, plc, if_neg hne, get_plc hn.2 hi]

end Go.Proofs.Ytpfcnfcnljnnlaa.Ab
