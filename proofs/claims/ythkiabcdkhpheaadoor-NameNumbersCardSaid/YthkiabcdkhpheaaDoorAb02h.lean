/-
  A row's reading of a string.
-/
import Derived.Test.YthkiabcdkhpheaaDoorAb02e
import Derived.Test.YthkiabcdkhpheaaDoorAbX
set_option linter.unusedVariables false
set_option maxHeartbeats 4000000
namespace Go.Proofs.YthkiabcdkhpheaaDoor.Ab
open Go.Proofs
theorem open_string {H : Type} {enc : TypeId × Value → H} {P : Program} {W : World} {r : Reach} {b0 : Nat} {t : TypeId} {v : Value} {d : DataW H} {ps : List MemPlace} (ht : P.underlying t = some .string) (hv : Value.okWide P W r b0 t v) (hd : DataW.Trod enc P W 0 (fun _ => true) true t v d ps) : ∃ s : ByteArray, v = .string s ∧ s.size ≤ maxLen := by
  obtain ⟨fuel, hf⟩ := hd
  have hc : v.cells.toList = [v] := by
    cases v with
    | agg cs => simp [Value.okWide, ht, Cell.okWide, Cell.ok] at hv
    | _ => rfl
  rw [hc] at hf
  obtain ⟨s, h1, _, h2⟩ := DataW.trod_string ht hf
  cases h1
  exact ⟨s, rfl, h2⟩
end Go.Proofs.YthkiabcdkhpheaaDoor.Ab
