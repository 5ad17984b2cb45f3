/-
  Plain laws of histories: pruning twice.
-/
import Derived.Test.YtdjkaapmaonegaaAbVf
set_option linter.unusedVariables false
set_option maxHeartbeats 4000000
namespace Go.Proofs.Ytdjkaapmaonegaa.Ab

def pick1 (x : Int) (b : List Int) : List Int := (b.filter fun y => x == y).map fun _ => x
def bothL (a b : List Int) : List Int := a.flatMap fun x => pick1 x b
theorem pick1_take_succ {x : Int} {b : List Int} {k : Nat} (h : k < b.length) : pick1 x (b.take (k + 1)) = pick1 x (b.take k) ++ (if x = b[k] then [x] else []) := by
  rw [List.take_succ_eq_append_getElem h, pick1, List.filter_append, List.map_append]
  congr 1
  by_cases e : x = b[k] <;> simp [e]
theorem pick1_length (x : Int) (b : List Int) : (pick1 x b).length ≤ b.length := by
  rw [pick1, List.length_map]; exact List.length_filter_le _ _
theorem bothL_take_succ {a b : List Int} {i : Nat} (h : i < a.length) : bothL (a.take (i + 1)) b = bothL (a.take i) b ++ pick1 a[i] b := by
  rw [List.take_succ_eq_append_getElem h, bothL, List.flatMap_append]; simp [bothL]
theorem bothL_length : ∀ (a b : List Int), (bothL a b).length ≤ a.length * b.length
  | [], b => by simp [bothL]
  | x :: a, b => by
    have h1 := bothL_length a b
    have h2 := pick1_length x b
    have e : bothL (x :: a) b = pick1 x b ++ bothL a b := rfl
    rw [e, List.length_append, List.length_cons, Nat.add_mul]
    omega
theorem mem_bothL {a b : List Int} {x : Int} : x ∈ bothL a b ↔ x ∈ a ∧ x ∈ b := by
  simp only [bothL, pick1, List.mem_flatMap, List.mem_map, List.mem_filter, beq_iff_eq]
  constructor
  · rintro ⟨y, hy, z, ⟨hz, rfl⟩, rfl⟩; exact ⟨hy, hz⟩
  · rintro ⟨h1, h2⟩; exact ⟨x, h1, x, ⟨h2, rfl⟩, rfl⟩
def allL (l : List F) : List Int := l.flatMap F.ids
theorem allL_take_succ {l : List F} {i : Nat} (h : i < l.length) : allL (l.take (i + 1)) = allL (l.take i) ++ (l[i]).ids := by
  rw [List.take_succ_eq_append_getElem h, allL, List.flatMap_append]; simp [allL]
theorem allL_length : ∀ (l : List F), (allL l).length = sumIds l
  | [] => rfl
  | f :: l => by
    have e : allL (f :: l) = f.ids ++ allL l := rfl
    rw [e, List.length_append, allL_length l, sumIds]

theorem prune_twice (l : List F) (a b u : List Int) (hu : ∀ x, x ∈ u ↔ x ∈ a ∧ x ∈ b) : pruneL (pruneL l a) b = pruneL l u := by
  rw [pruneL, pruneL, pruneL, List.filter_filter]
  refine List.filter_congr fun f _ => ?_
  rw [Bool.eq_iff_iff, Bool.and_eq_true]
  simp only [within, List.all_eq_true, decide_eq_true_eq]
  constructor
  · rintro ⟨h1, h2⟩ x hx; exact (hu x).2 ⟨h2 x hx, h1 x hx⟩
  · intro h; exact ⟨fun x hx => ((hu x).1 (h x hx)).2, fun x hx => ((hu x).1 (h x hx)).1⟩
theorem prune_both (l : List F) (a b : List Int) : pruneL (pruneL l a) b = pruneL l (bothL a b) := prune_twice l a b _ fun x => mem_bothL
theorem prune_comm (l : List F) (a b : List Int) : pruneL (pruneL l b) a = pruneL (pruneL l a) b := by
  rw [prune_both l a b]
  exact prune_twice l b a _ fun x => by rw [mem_bothL]; exact And.comm
theorem prune_all (l : List F) : pruneL l (allL l) = l := by
  rw [pruneL, List.filter_eq_self]
  intro f hf
  simp only [within, List.all_eq_true, decide_eq_true_eq]
  intro x hx
  exact List.mem_flatMap.2 ⟨f, hf, hx⟩
theorem right_prune {l : List F} (h : rightL l = true) (ids : List Int) : rightL (pruneL l ids) = true := by
  obtain ⟨h1, h2, h3⟩ := rightL_iff.1 h
  refine rightL_iff.2 ⟨Nat.le_trans (List.length_filter_le _ _) h1, fun f hf => h2 f (List.mem_filter.1 hf).1, ?_⟩
  exact List.Pairwise.sublist List.filter_sublist h3

theorem gw_total {most : Int} (hm : most ≤ 1000) : ∀ {l : List F} {n : Nat}, (∀ f ∈ l, f.ids.length ≤ 1048576) → gw most l n ≤ most → ((n + sumIds l : Nat) : Int) ≤ most
  | [], n, _, h => by simpa [gw, sumIds] using h
  | f :: l, n, hf, h => by
    rw [gw] at h
    split at h
    · rename_i hn
      have h1 := hf f (by simp)
      have e : IntKind.i64.wrap ((n : Int) + f.ids.length) = ((n + f.ids.length : Nat) : Int) := by rw [wrap_id (by omega)]; omega
      rw [e] at h
      have := gw_total hm (l := l) (n := n + f.ids.length) (fun g hg => hf g (by simp [hg])) h
      rw [sumIds]; omega
    · rename_i hn; exact absurd h hn
end Go.Proofs.Ytdjkaapmaonegaa.Ab
