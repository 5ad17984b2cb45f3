/-
  Bindings as data.
-/
import Derived.Test.YtpfcnfcnljnnlaaAbWb
import Derived.Test.YtpfcnfcnljnnlaaAbThree
set_option linter.unusedSimpArgs false
set_option linter.unusedVariables false
set_option maxHeartbeats 4000000
set_option maxRecDepth 4000
namespace Go.Proofs.Ytpfcnfcnljnnlaa.Ab
open Go.Proofs

/-! substitutions -/
def bav (b : Int × T) : AV := .agg [.i b.1, .i b.2.kind, .i b.2.int, .v (.string b.2.name), .sl 4 (avs b.2.args) none]
def bavs (l : List (Int × T)) : List AV := l.map bav
theorem bavs_length (l : List (Int × T)) : (bavs l).length = l.length := List.length_map _
theorem bavs_get {l : List (Int × T)} {k : Nat} (h : k < l.length) : (bavs l)[k]? = some (bav l[k]) := by
  rw [bavs, List.getElem?_map, List.getElem?_eq_getElem h]; rfl
theorem bavs_append (l m : List (Int × T)) : bavs (l ++ m) = bavs l ++ bavs m := List.map_append
theorem bavs_one (b : Int × T) : bavs [b] = [bav b] := rfl
theorem bav_cells (b : Int × T) : (bav b).cells = [.i b.1, .i b.2.kind, .i b.2.int, .v (.string b.2.name), .sl 4 (avs b.2.args) none] := rfl
theorem bav_isAgg (b : Int × T) : (bav b).isAgg = true := rfl
theorem bav_below (n : Nat) (b : Int × T) : ∀ a ∈ (bav b).cells, Below n a := by
  intro a ha
  rw [bav_cells] at ha
  simp only [List.mem_cons, List.not_mem_nil, or_false] at ha
  rcases ha with rfl | rfl | rfl | rfl | rfl
  · exact .v _
  · exact .v _
  · exact .v _
  · exact .v _
  · exact avs_below _ _
theorem bavs_flat (n : Nat) (l : List (Int × T)) : ∀ a ∈ flat (bavs l), Below n a := by
  intro a ha
  simp only [flat, bavs, List.mem_flatMap, List.mem_map] at ha
  obtain ⟨x, ⟨b, _, rfl⟩, hx⟩ := ha
  exact bav_below n b a hx


theorem bavs_nil : bavs [] = [] := rfl
theorem bavs_cons (b : Int × T) (l : List (Int × T)) : bavs (b :: l) = bav b :: bavs l := rfl
theorem bavs_take (l : List (Int × T)) (k : Nat) : (bavs l).take k = bavs (l.take k) := by simp only [bavs, List.map_take]
theorem bavs_drop (l : List (Int × T)) (k : Nat) : (bavs l).drop k = bavs (l.drop k) := by simp only [bavs, List.map_drop]
theorem bavs_below (n : Nat) (l : List (Int × T)) : Below n (.sl 5 (bavs l) none) := .sl 5 _ none (bavs_flat n l) (fun b hb => by cases hb)
/-- a binding put in -/
def insL (l : List (Int × T)) (i : Nat) (f : Int × T) : List (Int × T) := l.take i ++ [f] ++ l.drop i
theorem callH_ret {P : Program} {N c : Nat} {fv : AV} {args : List AV} {s : AS} {d : Option Tmp} {K : AS → Prop} {r : AV} {h' : AH} (H : FunW P fv args s.h fun o h2 => o = .ret r ∧ h2 = h') (hk : c = 3 → Keep s.h h') (k : K (AS.put N { s with h := h' } d r)) : CallH P N c fv args s d K := ⟨r, h', H, hk, k⟩
theorem FunW.call {P : Program} {f : FuncId} {args : List AV} {h : AH} {Q : AOut → AH → Prop} (H : CallW P f args h Q) : FunW P (.fn (.func f) [] []) args h Q := FunW.fn (by rw [List.nil_append, List.append_nil]; exact H)
theorem FunW.ret {P : Program} {fv : AV} {args : List AV} {h h' : AH} {r : AV} {Q : AOut → AH → Prop} (H : FunW P fv args h fun o h2 => o = .ret r ∧ h2 = h') (k : Q (.ret r) h') : FunW P fv args h Q := H.mono (by rintro _ _ ⟨rfl, rfl⟩; exact k)

end Go.Proofs.Ytpfcnfcnljnnlaa.Ab
