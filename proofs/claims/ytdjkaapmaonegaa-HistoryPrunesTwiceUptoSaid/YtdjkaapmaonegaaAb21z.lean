/-
  A row's reading of an entry is an entry no longer than its reading's bulk.
-/
import Derived.Test.YtdjkaapmaonegaaAbXb
import Derived.Test.YtdjkaapmaonegaaAb21v
import Derived.Test.YtdjkaapmaonegaaRows
set_option linter.unusedVariables false
set_option maxHeartbeats 4000000
namespace Go.Proofs.Ytdjkaapmaonegaa.Ab
open Go.Proofs Go.Proofs.Ytdjkaapmaonegaa.Rows

theorem bulkAll_mem {H : Type} : ∀ {ds : List (DataW H)} {d : DataW H}, d ∈ ds → uptoBulk d ≤ uptoBulkAll ds
  | x :: r, d, h => by
    rw [uptoBulkAll]
    rcases List.mem_cons.1 h with rfl | h
    · omega
    · have := bulkAll_mem h; omega
theorem bulk_pos {H : Type} : ∀ (d : DataW H), 1 ≤ uptoBulk d
  | .lit l => by
    cases l <;> simp [uptoBulk]
  | .nil => by simp [uptoBulk]
  | .ptr d => by simp [uptoBulk]
  | .slice es sp => by simp [uptoBulk]
  | .agg ps => by simp [uptoBulk]
  | .iface _ d => by simp [uptoBulk]
  | .map es => by simp [uptoBulk]
  | .held _ => by simp [uptoBulk]
theorem bulkAll_len {H : Type} : ∀ (ds : List (DataW H)), ds.length ≤ uptoBulkAll ds
  | [] => Nat.zero_le _
  | d :: r => by
    have h1 := bulk_pos d
    have h2 := bulkAll_len r
    rw [uptoBulkAll, List.length_cons]; omega
theorem bulk_slice {H : Type} {es rest : List (DataW H)} {z : DataW H} (h : z ∈ es) : uptoBulk z ≤ uptoBulk (.slice es rest) := by
  have := bulkAll_mem h
  rw [uptoBulk]; omega

/-- a slice is no longer than its reading's bulk -/
theorem bulk_len {H : Type} {enc : TypeId × Value → H} {P : Program} {W : World} {t e : TypeId} {fuel : Nat} {u : Value} {y : DataW H × List MemPlace} (ht : P.underlying t = some (.slice e))
    (h : DataW.trod enc P W 0 (fun _ => true) true fuel t [u] = some y) {c : Cx} {s : Nat} {xs : List AV} {own : Option Nat} (hr : Rel c (.sl s xs own) u) : xs.length ≤ uptoBulk y.1 := by
  rcases DataW.trod_slice ht h with ⟨_, hy⟩ | ⟨a, len, cap, elems, rest, n, _, hu, hy, _, hlc, hcm, hlen, _⟩
  · rename_i hu
    cases hu
    cases hr
    exact Nat.zero_le _
  · cases hu
    have hx : xs.length ≤ len := by
      cases hr with
      | slzero => exact Nat.zero_le _
      | sl => exact Nat.le_refl _
    have h1 := bulkAll_len (elems.map (·.1))
    rw [List.length_map] at h1
    rw [hy]
    show xs.length ≤ uptoBulk (.slice _ _)
    rw [uptoBulk]
    omega

theorem read_FB {H : Type} (enc : TypeId × Value → H) (W : World) (B : Nat) (fuel : Nat) (cs : List Value) (y : DataW H × List MemPlace) (hb : uptoBulk y.1 ≤ B) (h : DataW.trod enc Try.prog W 0 (fun _ => true) true fuel 27 cs = some y) : ∃ p : F, p.ids.length ≤ B ∧ Reads W p.av cs := by
  obtain ⟨xs, fu, hfu, hy, hl, hlen, hf⟩ := DataW.trod_struct Try.underlying27 h
  have hC : Try.prog.cellsOf 27 = 2 := by kernel_rfl
  rw [hC] at hl
  have hlenN : xs.length = 2 := hlen
  obtain ⟨y0, y1, rfl⟩ := len_two hlenN
  obtain ⟨c0, c1, rfl⟩ := len_two hl
  have g0 : DataW.trod enc Try.prog W 0 (fun _ => true) true fu 3 (([c0, c1].drop 0).take (Try.prog.cellsOf 3)) = some y0 := hf 0 _ rfl
  rw [show Try.prog.cellsOf 3 = 1 by kernel_rfl] at g0
  have g1 : DataW.trod enc Try.prog W 0 (fun _ => true) true fu 25 (([c0, c1].drop 1).take (Try.prog.cellsOf 25)) = some y1 := hf 1 _ rfl
  rw [show Try.prog.cellsOf 25 = 1 by kernel_rfl] at g1
  clear hf
  simp only [List.drop_zero, List.drop_succ_cons, List.take_succ_cons, List.take_zero] at g0 g1
  obtain ⟨n, e0, _, w0⟩ := DataW.trod_int Try.underlying3 g0
  obtain ⟨l, u1, hg1, e1, hu1, hr1⟩ := read_slice (X := Int) (val := fun n => .v (.int .i64 n)) (Good := fun _ => True) (s := 1) Try.underlying25 (by kernel_rfl) (by omega) (fun t => rfl) (fun m cs y _ hy => read_int enc W m cs y hy) g1
  cases e0; cases e1
  have hlen := bulk_len Try.underlying25 g1 hr1
  rw [List.length_map] at hlen
  have h2 : uptoBulk y1.1 ≤ uptoBulk y.1 := by
    rw [hy]
    show _ ≤ uptoBulk (.agg [y0.1, y1.1])
    rw [uptoBulk, uptoBulkAll, uptoBulkAll]
    omega
  refine ⟨⟨n, l⟩, by show l.length ≤ B; omega, rfl, fun j x v hx hv => ?_⟩
  rw [F.av_cells] at hx
  match j, hx, hv with
  | 0, hx, hv => simp at hx hv; subst hx; subst hv; exact ⟨.v _, rfl⟩
  | 1, hx, hv => simp at hx hv; subst hx; subst hv; exact ⟨hr1, hu1⟩
  | j + 2, hx, hv => simp at hx
end Go.Proofs.Ytdjkaapmaonegaa.Ab
