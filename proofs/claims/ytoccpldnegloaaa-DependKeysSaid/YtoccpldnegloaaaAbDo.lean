/-
  A row's reading of a number.
-/
import Derived.Test.YtoccpldnegloaaaAbDn
import Derived.Test.YtoccpldnegloaaaAbDl
import Derived.Test.YtoccpldnegloaaaAbX
set_option linter.unusedVariables false
set_option maxHeartbeats 4000000
namespace Go.Proofs.Ytoccpldnegloaaa.Ab
open Go.Proofs
theorem Dc.cells (d : Dc) : d.av.cells = [.v (.string d.name), .i d.arity] := rfl
theorem icells (n : Int) : (AV.v (.int .i64 n)).cells = [.v (.int .i64 n)] := rfl
theorem read_int {H : Type} (enc : TypeId × Value → H) (W : World) (fuel : Nat) (cs : List Value) (y : DataW H × List MemPlace) (h : DataW.trod enc Try.prog W 0 (fun _ => true) true fuel 3 cs = some y) : ∃ n : Int, True ∧ Reads W (AV.v (.int .i64 n)) cs := by
  obtain ⟨k, e, _, _⟩ := DataW.trod_int Try.underlying3 h
  subst e
  refine ⟨k, trivial, rfl, fun j x v hx hv => ?_⟩
  match j, hx, hv with
  | 0, hx, hv => simp [AV.cells] at hx hv; subst hx; subst hv; exact ⟨.v _, rfl⟩
  | j + 1, hx, hv => simp [AV.cells] at hx
end Go.Proofs.Ytoccpldnegloaaa.Ab
