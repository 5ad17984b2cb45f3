/-
  The data of the program as plain Lean data, and as abstract values; how a function is said to compute.
-/
import Derived.Test.YtplnbmldkgcedaaAbQ
import Derived.IntWalk
set_option linter.unusedVariables false
set_option maxHeartbeats 4000000
namespace Go.Proofs.Ytplnbmldkgcedaa.Ab

/-- a term: kind, number, name, arguments -/
inductive T where
  | mk (kind int : Int) (name : ByteArray) (args : List T)
  deriving Inhabited

def T.kind : T → Int | .mk k _ _ _ => k
def T.int : T → Int | .mk _ i _ _ => i
def T.name : T → ByteArray | .mk _ _ n _ => n
def T.args : T → List T | .mk _ _ _ l => l

mutual
def T.av : T → AV
  | .mk k i n l => .agg [.v (.int .i64 k), .v (.int .i64 i), .v (.string n), .sl 4 (avs l) none]
def avs : List T → List AV
  | [] => []
  | t :: l => t.av :: avs l
end

theorem avs_map : ∀ l : List T, avs l = l.map T.av
  | [] => rfl
  | t :: l => by simp only [avs, List.map_cons, avs_map l]
theorem avs_nil : avs [] = [] := rfl
theorem avs_length (l : List T) : (avs l).length = l.length := by rw [avs_map, List.length_map]
theorem avs_append (l m : List T) : avs (l ++ m) = avs l ++ avs m := by simp only [avs_map, List.map_append]
theorem avs_one (t : T) : avs [t] = [t.av] := rfl
theorem avs_get {l : List T} {k : Nat} (h : k < l.length) : (avs l)[k]? = some (l[k]).av := by
  rw [avs_map, List.getElem?_map, List.getElem?_eq_getElem h]; rfl
theorem avs_take (l : List T) (k : Nat) : (avs l).take k = avs (l.take k) := by simp only [avs_map, List.map_take]
theorem avs_drop (l : List T) (k : Nat) : (avs l).drop k = avs (l.drop k) := by simp only [avs_map, List.map_drop]

theorem T.av_cells (t : T) : t.av.cells = [.v (.int .i64 t.kind), .v (.int .i64 t.int), .v (.string t.name), .sl 4 (avs t.args) none] := by cases t; rfl
theorem T.av_isAgg (t : T) : t.av.isAgg = true := by cases t; rfl
theorem T.av_cells1 (t : T) : t.av.cells1 = true := by cases t; rfl
theorem T.av_fold (k i : Int) (n : ByteArray) (l : List T) : AV.agg [.v (.int .i64 k), .v (.int .i64 i), .v (.string n), .sl 4 (avs l) none] = (T.mk k i n l).av := by simp only [T.av]
theorem T.av_fold0 (k i : Int) (n : ByteArray) : AV.agg [.v (.int .i64 k), .v (.int .i64 i), .v (.string n), .sl 4 [] none] = (T.mk k i n []).av := by simp only [T.av, avs]

mutual
theorem T.av_below (n : Nat) : ∀ t : T, Below n t.av
  | .mk k i nm l => by
    simp only [T.av]
    refine .agg _ fun a ha => ?_
    simp only [List.mem_cons, List.not_mem_nil, or_false] at ha
    rcases ha with rfl | rfl | rfl | rfl
    · exact .v _
    · exact .v _
    · exact .v _
    · exact .sl 4 _ none (avs_flat n l) (fun b hb => by cases hb)
theorem avs_flat (n : Nat) : ∀ l : List T, ∀ a ∈ flat (avs l), Below n a
  | [], a, ha => by simp [avs, flat] at ha
  | t :: l, a, ha => by
    simp only [avs, flat_cons, List.mem_append] at ha
    rcases ha with ha | ha
    · have h1 := T.av_below n t
      cases t with
      | mk k i nm l' =>
        simp only [T.av] at h1
        cases h1 with
        | agg _ h => exact h a (by simpa only [T.av, AV.cells] using ha)
    · exact avs_flat n l a ha
end

theorem avs_below (n : Nat) (l : List T) : Below n (.sl 4 (avs l) none) := .sl 4 _ none (avs_flat n l) (fun b hb => by cases hb)

/-- numbers -/
def ints (l : List Int) : List AV := l.map fun n => .v (.int .i64 n)
theorem ints_length (l : List Int) : (ints l).length = l.length := List.length_map _
theorem ints_nil : ints [] = [] := rfl
theorem ints_one (n : Int) : ints [n] = [.v (.int .i64 n)] := rfl
theorem ints_append (l m : List Int) : ints (l ++ m) = ints l ++ ints m := List.map_append
theorem ints_get {l : List Int} {k : Nat} (h : k < l.length) : (ints l)[k]? = some (.v (.int .i64 l[k])) := by
  rw [ints, List.getElem?_map, List.getElem?_eq_getElem h]; rfl
theorem ints_flat (n : Nat) (l : List Int) : ∀ a ∈ flat (ints l), Below n a := by
  intro a ha
  simp only [flat, ints, List.mem_flatMap, List.mem_map] at ha
  obtain ⟨x, ⟨y, _, rfl⟩, hx⟩ := ha
  simp only [AV.cells, List.mem_singleton] at hx
  subst hx
  exact .v _
theorem ints_below (n : Nat) (l : List Int) : Below n (.sl 1 (ints l) none) := .sl 1 _ none (ints_flat n l) (fun b hb => by cases hb)

theorem rng0 : List.range 0 = [] := rfl
theorem rng1 : List.range 1 = [0] := rfl
theorem rng2 : List.range 2 = [0, 1] := rfl
theorem rng3 : List.range 3 = [0, 1, 2] := rfl
theorem rng4 : List.range 4 = [0, 1, 2, 3] := rfl
theorem rng5 : List.range 5 = [0, 1, 2, 3, 4] := rfl
theorem rng6 : List.range 6 = [0, 1, 2, 3, 4, 5] := rfl
theorem rng7 : List.range 7 = [0, 1, 2, 3, 4, 5, 6] := rfl
theorem rng8 : List.range 8 = [0, 1, 2, 3, 4, 5, 6, 7] := rfl
theorem any_some' {α : Type} (p : α → Bool) (x : α) : Option.any p (some x) = p x := rfl

/-! ### how a function computes -/

/-- it hands back r and leaves the heap as it was -/
def Pure (P : Program) (f : FuncId) (args : List AV) (r : AV) : Prop := ∀ h, CallW P f args h fun o h' => o = .ret r ∧ h' = h

theorem funW_pure {P : Program} {f : FuncId} {args : List AV} {r : AV} {h : AH} {C : AOut → AH → Prop} (H : Pure P f args r) (k : C (.ret r) h) : FunW P (.fn (.func f) [] []) args h C := by
  refine FunW.fn ?_
  rw [List.nil_append, List.append_nil]
  exact (H h).mono (by rintro _ _ ⟨rfl, rfl⟩; exact k)

theorem funW_cl {P : Program} {f : FuncId} {args cap : List AV} {r : AV} {h : AH} {C : AOut → AH → Prop} (H : Pure P f (args ++ cap) r) (k : C (.ret r) h) : FunW P (.fn (.func f) [] cap) args h C := by
  refine FunW.fn ?_
  rw [List.nil_append]
  exact (H h).mono (by rintro _ _ ⟨rfl, rfl⟩; exact k)

theorem callA_pure {P : Program} {N : Nat} {f : FuncId} {args : List AV} {r : AV} {s : AS} {d : Option Tmp} {K : AS → Prop} (H : Pure P f args r) (k : K (AS.put N s d r)) : CallA P N (.fn (.func f) [] []) args s d K :=
  ⟨r, fun hx => funW_pure H ⟨rfl, rfl⟩, k⟩

theorem callA_cl {P : Program} {N : Nat} {f : FuncId} {args cap : List AV} {r : AV} {s : AS} {d : Option Tmp} {K : AS → Prop} (H : Pure P f (args ++ cap) r) (k : K (AS.put N s d r)) : CallA P N (.fn (.func f) [] cap) args s d K :=
  ⟨r, fun hx => funW_cl H ⟨rfl, rfl⟩, k⟩

theorem rowGrow {N e n : Nat} {s : AS} {d : Option Tmp} {K : AS → Prop} (k : K (AS.put N { s with h := s.h ++ [.grow e n 0] } d (.sl n [] (some s.h.length)))) : RowW N e n s d K := .inl k
theorem rowOwn {N e n : Nat} {s : AS} {d : Option Tmp} {K : AS → Prop} (k : K (AS.put N { s with h := s.h ++ [.dead] } d (.sl n [] (some s.h.length)))) : RowW N e n s d K := .inr k

theorem leaves_end {h h' : AH} {r r' : AV} {Q : AV → AH → Prop} (ht : h'.take h.length = h) (hf : Frz h' h.length r r') (hq : Q r' h) : Leaves h h' r Q := by
  refine .inl ⟨h.length, r', Nat.le_refl _, ?_, .inl ht, hf, by rw [ht]; exact hq⟩
  have := congrArg List.length ht
  rw [List.length_take] at this
  omega

theorem htake0 (h : AH) : h.take h.length = h := List.take_length

theorem wrap_id {n : Int} (h : -9223372036854775808 ≤ n ∧ n ≤ 9223372036854775807) : IntKind.i64.wrap n = n := IntWalk.i64_in n h
theorem wrap_nat {n : Nat} (h : n ≤ 9223372036854775806) : IntKind.i64.wrap ((n : Int) + 1) = ((n + 1 : Nat) : Int) := by
  rw [wrap_id (by omega)]; omega

theorem leaves_all {h h' : AH} {r : AV} {Q : AV → AH → Prop} (hq : Q r h') : Leaves h h' r Q := .inr hq

/-- the arguments that a term uses -/
def T.uses (t : T) : List T := if t.kind = 2 then t.args else []

mutual
def T.size : T → Nat
  | .mk k _ _ l => 1 + (if k = 2 then sizes l else 0)
def sizes : List T → Nat
  | [] => 0
  | t :: l => t.size + sizes l
end
theorem T.size_eq (t : T) : t.size = 1 + sizes t.uses := by
  cases t with | mk k i n l => simp only [T.size, T.uses, T.kind, T.args]; by_cases hk : k = 2 <;> simp [hk, sizes]
theorem sizes_append (l m : List T) : sizes (l ++ m) = sizes l + sizes m := by
  induction l with
  | nil => simp [sizes]
  | cons t l ih => simp only [List.cons_append, sizes, ih]; omega
theorem sizes_take_succ {l : List T} {k : Nat} (h : k < l.length) : sizes (l.take (k + 1)) = sizes (l.take k) + (l[k]).size := by
  rw [List.take_succ_eq_append_getElem h, sizes_append]; simp [sizes]
theorem sizes_take_le (l : List T) (k : Nat) : sizes (l.take k) ≤ sizes l := by
  have := sizes_append (l.take k) (l.drop k)
  rw [List.take_append_drop] at this
  omega
theorem size_pos (t : T) : 1 ≤ t.size := by rw [T.size_eq]; omega
theorem length_le_sizes (l : List T) : l.length ≤ sizes l := by
  induction l with
  | nil => simp
  | cons t l ih => have := size_pos t; simp only [List.length_cons, sizes]; omega

end Go.Proofs.Ytplnbmldkgcedaa.Ab
