/-
  An abstract program logic: equations, regions in any order, loops over functions, tokens; terms as data.
-/
import Derived.Test.YthkiabcdkhpheaaDoorAbTwo
import Derived.RangeFuncNested
import Derived.Laws.Externs
import Derived.IntWalk
import Derived.Below
import Derived.Lib.ItoaNum
import Derived.Lib.ItoaMem
import Derived.Lib.AtoiTie
set_option linter.unusedVariables false
set_option maxHeartbeats 4000000
/-
  The abstract program logic: how a frame is worked out: equations for the walk.
-/
set_option linter.unusedVariables false
namespace Go.Proofs.YthkiabcdkhpheaaDoor.Ab

theorem hget (h l : AH) (k : Nat) : (h ++ l)[h.length + k]? = l[k]? := by
  rw [List.getElem?_append_right (by omega)]; congr 1; omega
theorem hget0 (h l : AH) : (h ++ l)[h.length]? = l[0]? := hget h l 0
theorem hset (h l : AH) (k : Nat) (b : AB) : (h ++ l).set (h.length + k) b = h ++ l.set k b := by
  rw [List.set_append_right _ _ (by omega)]; congr 2; omega
theorem hset0 (h l : AH) (b : AB) : (h ++ l).set h.length b = h ++ l.set 0 b := hset h l 0 b
theorem hext {h : AH} {i : Nat} {b : AB} (hb : h[i]? = some b) (l : AH) : (h ++ l)[i]? = some b := by
  rw [List.getElem?_append_left (lt_of_get hb)]; exact hb
theorem hsetx {h : AH} {i : Nat} (hi : i < h.length) (l : AH) (b : AB) : (h ++ l).set i b = h.set i b ++ l := by
  rw [List.set_append_left _ _ hi]
theorem hlen (h l : AH) : (h ++ l).length = h.length + l.length := List.length_append
theorem happ (h l m : AH) : (h ++ l) ++ m = h ++ (l ++ m) := List.append_assoc h l m
theorem htake (h l : AH) : (h ++ l).take h.length = h := List.take_left

/-! ### cells of values -/

theorem cells_agg (l : List AV) : (AV.agg l).cells = l := rfl
theorem cells_v (x : Value) : (AV.v x).cells = [.v x] := rfl
theorem cells_sl (s : Nat) (xs : List AV) (o : Option Nat) : (AV.sl s xs o).cells = [.sl s xs o] := rfl
theorem cells_pin (s : Nat) (xs : List AV) (k o : Nat) : (AV.pin s xs k o).cells = [.pin s xs k o] := rfl
theorem cells_ptr (i k o : Nat) : (AV.ptr i k o).cells = [.ptr i k o] := rfl
theorem cells_arr (i k o : Nat) : (AV.arr i k o).cells = [.arr i k o] := rfl
theorem cells_row (i k o c : Nat) : (AV.row i k o c).cells = [.row i k o c] := rfl
theorem cells_mp (i : Nat) : (AV.mp i).cells = [.mp i] := rfl
theorem cells_fn (f : Fn) (a b : List AV) : (AV.fn f a b).cells = [.fn f a b] := rfl
theorem cells_ifc (t : TypeId) (x : AV) : (AV.ifc t x).cells = [.ifc t x] := rfl
theorem isAgg_agg (l : List AV) : (AV.agg l).isAgg = true := rfl
theorem isAgg_v (x : Value) : (AV.v x).isAgg = false := rfl
theorem isAgg_sl (s : Nat) (xs : List AV) (o : Option Nat) : (AV.sl s xs o).isAgg = false := rfl
theorem isAgg_pin (s : Nat) (xs : List AV) (k o : Nat) : (AV.pin s xs k o).isAgg = false := rfl
theorem isAgg_ptr (i k o : Nat) : (AV.ptr i k o).isAgg = false := rfl
theorem isAgg_arr (i k o : Nat) : (AV.arr i k o).isAgg = false := rfl
theorem isAgg_row (i k o c : Nat) : (AV.row i k o c).isAgg = false := rfl
theorem isAgg_mp (i : Nat) : (AV.mp i).isAgg = false := rfl
theorem isAgg_fn (f : Fn) (a b : List AV) : (AV.fn f a b).isAgg = false := rfl
theorem isAgg_ifc (t : TypeId) (x : AV) : (AV.ifc t x).isAgg = false := rfl
theorem cell1_int (k : IntKind) (n : Int) : (AV.v (.int k n)).cell1 = true := rfl
theorem cell1_bool (b : Bool) : (AV.v (.bool b)).cell1 = true := rfl
theorem cell1_str (b : ByteArray) : (AV.v (.string b)).cell1 = true := rfl
theorem cell1_slice (a : Option Addr) (m n : Nat) : (AV.v (.slice a m n)).cell1 = true := rfl
theorem cell1_map (a : Option Nat) : (AV.v (.map a)).cell1 = true := rfl
theorem cell1_pointer (a : Option Addr) : (AV.v (.pointer a)).cell1 = true := rfl
theorem cell1_nilFunc : (AV.v .nilFunc).cell1 = true := rfl
theorem cell1_nilIface : (AV.v .nilIface).cell1 = true := rfl
theorem cell1_sl (s : Nat) (xs : List AV) (o : Option Nat) : (AV.sl s xs o).cell1 = true := rfl
theorem cell1_pin (s : Nat) (xs : List AV) (k o : Nat) : (AV.pin s xs k o).cell1 = true := rfl
theorem cell1_ptr (i k o : Nat) : (AV.ptr i k o).cell1 = true := rfl
theorem cell1_arr (i k o : Nat) : (AV.arr i k o).cell1 = true := rfl
theorem cell1_row (i k o c : Nat) : (AV.row i k o c).cell1 = true := rfl
theorem cell1_mp (i : Nat) : (AV.mp i).cell1 = true := rfl
theorem cell1_fn (f : Fn) (a b : List AV) : (AV.fn f a b).cell1 = true := rfl
theorem cell1_ifc (t : TypeId) (x : AV) : (AV.ifc t x).cell1 = true := rfl
theorem ofV_int (k : IntKind) (n : Int) : AV.ofV (.int k n) = .v (.int k n) := rfl
theorem ofV_bool (b : Bool) : AV.ofV (.bool b) = .v (.bool b) := rfl
theorem ofV_str (b : ByteArray) : AV.ofV (.string b) = .v (.string b) := rfl
theorem ofV_slice (a : Option Addr) (m n : Nat) : AV.ofV (.slice a m n) = .v (.slice a m n) := rfl
theorem ofV_map (a : Option Nat) : AV.ofV (.map a) = .v (.map a) := rfl
theorem ofV_pointer (a : Option Addr) : AV.ofV (.pointer a) = .v (.pointer a) := rfl
theorem ofV_nilFunc : AV.ofV .nilFunc = .v .nilFunc := rfl
theorem ofV_nilIface : AV.ofV .nilIface = .v .nilIface := rfl
theorem ofV_agg (cs : Array Value) : AV.ofV (.agg cs) = .agg (cs.toList.map .v) := rfl

/-! ### values of operations on numbers -/

section
variable (P : Program) (t : TypeId) (xo yo : Operand) (k : IntKind) (a b : Int)
theorem pv_eql : pv P (do eqGuard .eql t xo yo (.int k a) (.int k b); binOp .eql t (.int k a) (.int k b)) = some (.bool (a == b)) := by cases k <;> rfl
theorem pv_neq : pv P (do eqGuard .neq t xo yo (.int k a) (.int k b); binOp .neq t (.int k a) (.int k b)) = some (.bool (a != b)) := by cases k <;> rfl
theorem pv_lss : pv P (do eqGuard .lss t xo yo (.int k a) (.int k b); binOp .lss t (.int k a) (.int k b)) = some (.bool (a < b)) := by cases k <;> rfl
theorem pv_leq : pv P (do eqGuard .leq t xo yo (.int k a) (.int k b); binOp .leq t (.int k a) (.int k b)) = some (.bool (a ≤ b)) := by cases k <;> rfl
theorem pv_gtr : pv P (do eqGuard .gtr t xo yo (.int k a) (.int k b); binOp .gtr t (.int k a) (.int k b)) = some (.bool (a > b)) := by cases k <;> rfl
theorem pv_geq : pv P (do eqGuard .geq t xo yo (.int k a) (.int k b); binOp .geq t (.int k a) (.int k b)) = some (.bool (a ≥ b)) := by cases k <;> rfl
theorem pv_add : pv P (do eqGuard .add t xo yo (.int k a) (.int k b); binOp .add t (.int k a) (.int k b)) = some (.int k (k.wrap (a + b))) := by cases k <;> rfl
theorem pv_sub : pv P (do eqGuard .sub t xo yo (.int k a) (.int k b); binOp .sub t (.int k a) (.int k b)) = some (.int k (k.wrap (a - b))) := by cases k <;> rfl
theorem pv_mul : pv P (do eqGuard .mul t xo yo (.int k a) (.int k b); binOp .mul t (.int k a) (.int k b)) = some (.int k (k.wrap (a * b))) := by cases k <;> rfl
theorem pv_not (x : Bool) : pv P (Op.unary .not (.bool x)) = some (.bool !x) := rfl
theorem pv_neg : pv P (Op.unary .neg (.int k a)) = some (.int k (k.wrap (0 - a))) := by cases k <;> rfl
theorem pv_max (ty : TypeId) (ts : Array TypeId) : pv P (Builtin.max_ ts ty #[.int k a, .int k b]) = some (.int k (if b > a then b else a)) := by cases k <;> rfl
theorem pv_min (ty : TypeId) (ts : Array TypeId) : pv P (Builtin.min_ ts ty #[.int k a, .int k b]) = some (.int k (if b < a then b else a)) := by cases k <;> rfl
end

theorem pv_bind {α β : Type} (P : Program) : ∀ (x : Sem α) (f : α → Sem β), pv P (x >>= f) = (pv P x).bind fun a => pv P (f a)
  | .pure a, f => rfl
  | .program k, f => pv_bind P (k P) f
  | .mark m k, f => pv_bind P k f
  | .load _ _ _, f | .store _ _ _ _, f | .new _ _, f | .shape _ _, f | .freeze _ _ _, f | .frozen _ _, f | .getObj _ _, f | .setObj _ _ _, f | .choose _ _, f | .sys _ _, f | .halt _, f => rfl

theorem pv_equal_bool (P : Program) (t : TypeId) (ht : P.underlying t = some .bool) (a b : Bool) : pv P (Op.equal t (.bool a) (.bool b)) = some (a == b) := by
  have h : ∀ n, pv P (Op.equalIn (n + 1) t (.bool a) (.bool b)) = some (a == b) := by
    intro n
    simp only [Op.equalIn, underlying]
    rw [pv_bind, pv_bind]
    simp only [program, pv, Option.bind_some, ht]
    rfl
  exact h 9999
theorem pv_beql (P : Program) (t : TypeId) (xo yo : Operand) (ht : P.underlying t = some .bool) (a b : Bool) : pv P (do eqGuard .eql t xo yo (.bool a) (.bool b); binOp .eql t (.bool a) (.bool b)) = some (.bool (a == b)) := by
  have h1 : pv P (binOp .eql t (.bool a) (.bool b)) = some (.bool (a == b)) := by
    show pv P (do let r ← Op.equal t (.bool a) (.bool b); pure (Value.bool r)) = _
    rw [pv_bind, pv_equal_bool P t ht]; rfl
  rw [pv_bind]
  show (some ()).bind _ = _
  exact h1
theorem pv_bneq (P : Program) (t : TypeId) (xo yo : Operand) (ht : P.underlying t = some .bool) (a b : Bool) : pv P (do eqGuard .neq t xo yo (.bool a) (.bool b); binOp .neq t (.bool a) (.bool b)) = some (.bool (a != b)) := by
  have h1 : pv P (binOp .neq t (.bool a) (.bool b)) = some (.bool (a != b)) := by
    show pv P (do let r ← Op.equal t (.bool a) (.bool b); pure (Value.bool !r)) = _
    rw [pv_bind, pv_equal_bool P t ht]; rfl
  rw [pv_bind]
  show (some ()).bind _ = _
  exact h1

theorem pv_seql (P : Program) (t : TypeId) (xo yo : Operand) (a b : ByteArray) : pv P (do eqGuard .eql t xo yo (.string a) (.string b); binOp .eql t (.string a) (.string b)) = some (.bool (a.toList == b.toList)) := rfl
theorem pv_sneq (P : Program) (t : TypeId) (xo yo : Operand) (a b : ByteArray) : pv P (do eqGuard .neq t xo yo (.string a) (.string b); binOp .neq t (.string a) (.string b)) = some (.bool !(a.toList == b.toList)) := rfl
theorem pv_slss (P : Program) (t : TypeId) (xo yo : Operand) (a b : ByteArray) : pv P (do eqGuard .lss t xo yo (.string a) (.string b); binOp .lss t (.string a) (.string b)) = some (.bool (Op.bytesLess a.toList b.toList)) := rfl
theorem pv_sgtr (P : Program) (t : TypeId) (xo yo : Operand) (a b : ByteArray) : pv P (do eqGuard .gtr t xo yo (.string a) (.string b); binOp .gtr t (.string a) (.string b)) = some (.bool !(Op.bytesLess a.toList b.toList || a.toList == b.toList)) := rfl

theorem pv_slen (P : Program) (t ty : TypeId) (ht : P.underlying t = some .string) (s : ByteArray) : pv P (Builtin.len_ #[t] ty #[.string s]) = some (goInt s.size) := by
  simp only [Builtin.len_, List.getElem?_toArray, List.getElem?_cons_zero, underlying, program, Bind.bind, Sem.bind, pv, ht]
  rfl
theorem pv_nillen (P : Program) (t ty e : TypeId) (ht : P.underlying t = some (.slice e)) : pv P (Builtin.len_ #[t] ty #[.slice none 0 0]) = some (goInt 0) := by
  simp only [Builtin.len_, List.getElem?_toArray, List.getElem?_cons_zero, underlying, program, Bind.bind, Sem.bind, pv, ht]
  rfl

theorem then_normal (K : AS → Prop) (Q : AExit → AS → Prop) (s : AS) : AExit.then K Q .normal s = K s := rfl
theorem then_ret (K : AS → Prop) (Q : AExit → AS → Prop) (s : AS) : AExit.then K Q .ret s = Q .ret s := rfl
theorem then_exit (K : AS → Prop) (Q : AExit → AS → Prop) (s : AS) (i : Nat) : AExit.then K Q (.exit i) s = Q (.exit i) s := rfl
theorem then_panic (K : AS → Prop) (Q : AExit → AS → Prop) (s : AS) (x : AV) : AExit.then K Q (.panic x) s = Q (.panic x) s := rfl
theorem block_normal (i : Nat) (Q : AExit → AS → Prop) (s : AS) : AExit.inBlock i Q .normal s = Q .normal s := rfl
theorem block_ret (i : Nat) (Q : AExit → AS → Prop) (s : AS) : AExit.inBlock i Q .ret s = Q .ret s := rfl
theorem block_panic (i : Nat) (Q : AExit → AS → Prop) (s : AS) (x : AV) : AExit.inBlock i Q (.panic x) s = Q (.panic x) s := rfl
theorem block_exit (i j : Nat) (Q : AExit → AS → Prop) (s : AS) : AExit.inBlock i Q (.exit j) s = if j = i then Q .normal s else Q (.exit j) s := rfl

end Go.Proofs.YthkiabcdkhpheaaDoor.Ab
namespace Go.Proofs.YthkiabcdkhpheaaDoor.Ab
theorem put_some (N : Nat) (tm : Nat → AV) (h : AH) (d : Nat) (x : AV) (hd : d < N) : AS.put N ⟨tm, h⟩ (some d) x = ⟨upd tm d x, h⟩ := if_pos hd
theorem opsW_nil (P : Program) (N : Nat) (ops : Array Oper) (K : AS → Prop) (E : AV → AS → Prop) (tm : Nat → AV) (h : AH) : OpsW P N ops [] K E ⟨tm, h⟩ = K ⟨tm, h⟩ := rfl
theorem opsW_cons (P : Program) (N : Nat) (ops : Array Oper) (o : Oper) (l : List Oper) (K : AS → Prop) (E : AV → AS → Prop) (tm : Nat → AV) (h : AH) : OpsW P N ops (o :: l) K E ⟨tm, h⟩ = (match awanted ops tm o with | some true => OpW P N o ⟨tm, h⟩ (OpsW P N ops l K E) E | some false => OpsW P N ops l K E (AS.put N ⟨tm, h⟩ o.dst (.v undef)) | none => False) := rfl
theorem put_none (N : Nat) (tm : Nat → AV) (h : AH) (x : AV) : AS.put N ⟨tm, h⟩ none x = ⟨tm, h⟩ := rfl
theorem upd_at (f : Nat → AV) (d t : Nat) (x : AV) : upd f d x t = if t = d then x else f t := rfl
theorem ev_tmp (tm : Nat → AV) (h : AH) (t : Nat) : AS.ev ⟨tm, h⟩ (.tmp t) = tm t := rfl
theorem ev_const (tm : Nat → AV) (h : AH) (v : Value) : AS.ev ⟨tm, h⟩ (.const v) = AV.ofV v := rfl
theorem ev_func (tm : Nat → AV) (h : AH) (f : FuncId) : AS.ev ⟨tm, h⟩ (.func f) = .fn (.func f) [] [] := rfl
end Go.Proofs.YthkiabcdkhpheaaDoor.Ab
namespace Go.Proofs.YthkiabcdkhpheaaDoor.Ab
theorem codeW_region_k {P : Program} {N : Nat} {Q : AExit → AS → Prop} {s : AS} {id : Nat} {ops : Array Oper}
    (H : ∀ (K : AS → Prop) (E : AV → AS → Prop), (∀ s, Q .normal s → K s) → (∀ r s, Q (.panic r) s → E r s) → OpsW P N ops ops.toList K E s) : CodeW P N (.region id ops false) Q s :=
  codeW_region (H _ _ (fun _ h => h) (fun _ _ h => h))
theorem codeW_seq_region {P : Program} {N : Nat} {Q : AExit → AS → Prop} {s : AS} {id : Nat} {ops : Array Oper} {y : Code}
    (H : ∀ (K : AS → Prop) (E : AV → AS → Prop), (∀ s, CodeW P N y Q s → K s) → (∀ r s, Q (.panic r) s → E r s) → OpsW P N ops ops.toList K E s) : CodeW P N (.seq (.region id ops false) y) Q s :=
  codeW_seq (codeW_region (H _ _ (fun _ h => h) (fun _ _ h => h)))
theorem to_then_normal {K : AS → Prop} {Q : AExit → AS → Prop} {s : AS} (h : K s) : AExit.then K Q .normal s := h
theorem to_then_ret {K : AS → Prop} {Q : AExit → AS → Prop} {s : AS} (h : Q .ret s) : AExit.then K Q .ret s := h
theorem to_then_exit {K : AS → Prop} {Q : AExit → AS → Prop} {s : AS} {i : Nat} (h : Q (.exit i) s) : AExit.then K Q (.exit i) s := h
theorem to_then_panic {K : AS → Prop} {Q : AExit → AS → Prop} {s : AS} {x : AV} (h : Q (.panic x) s) : AExit.then K Q (.panic x) s := h
theorem to_block_normal {i : Nat} {Q : AExit → AS → Prop} {s : AS} (h : Q .normal s) : AExit.inBlock i Q .normal s := h
theorem to_block_ret {i : Nat} {Q : AExit → AS → Prop} {s : AS} (h : Q .ret s) : AExit.inBlock i Q .ret s := h
theorem to_block_panic {i : Nat} {Q : AExit → AS → Prop} {s : AS} {x : AV} (h : Q (.panic x) s) : AExit.inBlock i Q (.panic x) s := h
theorem to_block_hit {i : Nat} {Q : AExit → AS → Prop} {s : AS} (h : Q .normal s) : AExit.inBlock i Q (.exit i) s := by
  rw [block_exit, if_pos rfl]; exact h
theorem to_block_miss {i j : Nat} {Q : AExit → AS → Prop} {s : AS} (hj : (j == i) = false) (h : Q (.exit j) s) : AExit.inBlock i Q (.exit j) s := by
  rw [block_exit, if_neg (by simpa using hj)]; exact h
end Go.Proofs.YthkiabcdkhpheaaDoor.Ab

/-
  The abstract program logic: what an operation looks at; an operation over a heap that has grown.
-/
set_option linter.unusedVariables false
set_option linter.unusedSectionVars false
namespace Go.Proofs.YthkiabcdkhpheaaDoor.Ab

/-- what was there is there, but for the rows that grow -/
def Keep (h h' : AH) : Prop := ∀ (id : Nat) (b : AB), h[id]? = some b → (∀ e s n, b ≠ .grow e s n) → h'[id]? = some b
theorem Keep.refl (h : AH) : Keep h h := fun _ _ h _ => h
theorem Keep.trans {a b c : AH} (h : Keep a b) (k : Keep b c) : Keep a c := fun id x hx hn => k id x (h id x hx hn) hn
theorem Keep.nil (h : AH) : Keep [] h := fun id b hb => by simp at hb
theorem Keep.app (h l : AH) : Keep h (h ++ l) := fun id b hb _ => hext hb l
theorem Keep.setGrow {h : AH} {i : Nat} {e s n : Nat} (hi : h[i]? = some (.grow e s n)) (b : AB) : Keep h (h.set i b) := fun id x hx hn => by
  have hne : i ≠ id := fun e' => by subst e'; rw [hi] at hx; cases hx; exact hn _ _ _ rfl
  rw [List.getElem?_set_ne hne]; exact hx

/-- operations that leave the heap as it is -/
def lightK : Op → Bool
  | .move _ | .assign _ | .pick .. | .build .. | .load .. | .binOp .. | .unOp .. | .convert .. | .makeFunc .. | .makeInterface .. | .fieldAddr .. | .field .. | .indexAddr .. | .index .. | .lookup .. | .extract .. | .nilCheck _ | .typeAssert .. => true
  | .buildSlice _ n _ => n != 0
  | .slice _ _ _ _ m => m.isNone
  | .call c => match c.callee with
    | .builtin .len | .builtin .min | .builtin .max | .builtin .unsafeSliceData => true
    | _ => false
  | _ => false

/-- operations that only add to the heap -/
def addsK : Op → Bool
  | .alloc _ | .box .. | .buildSlice .. | .makeMap .. | .makeSlice .. => true
  | .slice _ _ _ _ m => m.isSome
  | .call c => match c.callee with
    | .builtin .append => true
    | _ => false
  | _ => false

theorem map_pair {α : Type} {x : Option α} {h h1 : AH} {r : α} (e : x.map (·, h) = some (r, h1)) : x = some r ∧ h1 = h := by
  cases x <;> simp at e
  exact ⟨by rw [e.1], e.2.symm⟩

theorem get_cells {h h' : AH} (k : Keep h h') {id : Nat} {t s : Nat} {xs : List AV} (e : h[id]? = some (.cells t s xs)) : h'[id]? = some (.cells t s xs) := k id _ e (fun _ _ _ h => by cases h)
theorem get_map {h h' : AH} (k : Keep h h') {id : Nat} {es : List (Value × AV)} (e : h[id]? = some (.map es)) : h'[id]? = some (.map es) := k id _ e (fun _ _ _ h => by cases h)

section
variable {P : Program} {h h' : AH} (k : Keep h h')
include k

theorem aLoad_mono {t : TypeId} {x r : AV} (e : aLoad P t x h = some r) : aLoad P t x h' = some r := by
  unfold aLoad at e ⊢
  cases x <;> simp only at e ⊢ <;> try exact e
  split at e
  · rename_i hb; rw [get_cells k hb]; exact e
  · cases e

theorem aFieldAddr_mono {t : TypeId} {x r : AV} {i : Nat} (e : aFieldAddr P t x i h = some r) : aFieldAddr P t x i h' = some r := by
  unfold aFieldAddr at e ⊢
  cases hf : fieldInfo P t i with
  | none => simp [hf] at e
  | some p =>
    simp only [hf] at e ⊢
    cases x <;> simp only at e ⊢ <;> try exact e
    split at e
    · rename_i hb; rw [get_cells k hb]; exact e
    · cases e

theorem aIndexAddr_mono {t : TypeId} {x i r : AV} (e : aIndexAddr P t x i h = some r) : aIndexAddr P t x i h' = some r := by
  unfold aIndexAddr at e ⊢
  cases hf : elemInfo P t with
  | none => simp [hf] at e
  | some p =>
    simp only [hf] at e ⊢
    split at e
    · cases x <;> simp only at e ⊢ <;> try exact e
      split at e
      · rename_i hb; rw [get_cells k hb]; exact e
      · cases e
    · cases e

theorem aLen_mono {t ty : TypeId} {x r : AV} (e : aLen P t ty x h = some r) : aLen P t ty x h' = some r := by
  unfold aLen at e ⊢
  cases x <;> simp only at e ⊢ <;> try exact e
  · split at e
    · rename_i hu hb; rw [hu, get_cells k hb]; exact e
    · cases e
  · split at e
    · rename_i hu hb; rw [hu, get_cells k hb]; exact e
    · cases e
  · split at e
    · rename_i hu hb; rw [hu, get_map k hb]; exact e
    · cases e

theorem srcOf_mono {n : Nat} {x : AV} {ys : List AV} (e : srcOf n h x = some ys) : srcOf n h' x = some ys := by
  unfold srcOf at e ⊢
  split at e <;> try exact e
  · split at e
    · rename_i hb; rw [get_cells k hb]; exact e
    · cases e
  · split at e
    · rename_i hb; rw [get_cells k hb]; exact e
    · cases e
theorem aBytes_mono {s d : TypeId} {x r : AV} (e : aBytes P s d x h = some r) : aBytes P s d x h' = some r := by
  unfold aBytes at e ⊢
  split at e
  · rename_i hb hs
    rw [hb, srcOf_mono k hs]
    exact e
  · cases e

theorem aSlice_mono {t : TypeId} {x r : AV} {lo hi : Option AV} (e : aSlice P t x lo hi h = some r) : aSlice P t x lo hi h' = some r := by
  unfold aSlice at e ⊢
  cases hf : elemInfo P t with
  | none => simp only [hf] at e ⊢; exact e
  | some p =>
    simp only [hf] at e ⊢
    split at e <;> try exact e
    · split at e
      · rename_i hb; rw [get_cells k hb]; exact e
      · cases e
    · split at e
      · rename_i hb; rw [get_cells k hb]; exact e
      · cases e

theorem notNil_mono {t : TypeId} {x : AV} {b : Value} (e : notNil P t h x b = true) : notNil P t h' x b = true := by
  unfold notNil at e ⊢
  split at e <;> first
    | exact e
    | (split at e
       · rename_i hu hb
         first
           | rw [hu, get_cells k hb]
           | rw [hu, get_map k hb]
       · cases e)
    | cases e

theorem aPtrEq_mono {op : BinOp} {t : TypeId} {x y r : AV} (e : aPtrEq P op t x y h = some r) : aPtrEq P op t x y h' = some r := by
  unfold aPtrEq at e ⊢
  split at e
  · split at e
    · rename_i hu hb
      rw [hu, get_cells k hb]
      exact e
    · cases e
  · cases e
theorem aUnsafe_mono {s d : TypeId} {id kk off : Nat} {r : AV} (e : aUnsafe P s d id kk off h = some r) : aUnsafe P s d id kk off h' = some r := by
  unfold aUnsafe at e ⊢
  split at e
  · rename_i hb
    rw [get_cells k hb]
    exact e
  · cases e
theorem aNotNilP_mono {x : AV} (e : aNotNilP h x = true) : aNotNilP h' x = true := by
  cases x <;> simp only [aNotNilP] at e ⊢ <;> try exact e
  split at e
  · rename_i hb; rw [get_cells k hb]
  · cases e
theorem aBin_mono {op : BinOp} {t : TypeId} {xo yo : Operand} {x y r : AV} (e : aBin P op t xo yo x y h = some r) : aBin P op t xo yo x y h' = some r := by
  unfold aBin at e ⊢
  split at e
  · exact e
  · rename_i b hnv
    split at e
    · split at e
      · rename_i hn; rw [notNil_mono k hn]; simpa using e
      · cases e
    · split at e
      · rename_i hn; rw [notNil_mono k hn]; simpa using e
      · cases e
    · cases e
  · exact aPtrEq_mono k e
  · cases e

theorem aLookup_mono {t : TypeId} {x y r : AV} {ok : Bool} (e : aLookup P t x y ok h = some r) : aLookup P t x y ok h' = some r := by
  unfold aLookup at e ⊢
  cases hf : mapInfo P t with
  | none => simp [hf] at e
  | some p =>
    simp only [hf] at e ⊢
    cases y with
    | v kv =>
      simp only at e ⊢
      cases x with
      | mp id =>
        simp only at e ⊢
        cases hb : h[id]? with
        | none => simp [hb] at e
        | some b =>
          cases b with
          | map es => rw [get_map k hb]; rw [hb] at e; exact e
          | _ => simp [hb] at e
      | v x => cases x with
        | map r => cases r <;> exact e
        | _ => exact e
      | _ => exact e
    | _ => exact e

theorem aBuildSlice_mono {t : TypeId} {n : Nat} (hn : (n != 0) = true) {parts : List (Nat × AV)} {r : AV} {h1 : AH} (e : aBuildSlice P t n parts h = some (r, h1)) : h1 = h ∧ aBuildSlice P t n parts h' = some (r, h') := by
  unfold aBuildSlice at e ⊢
  have hn' : n ≠ 0 := by simpa using hn
  cases hf : elemInfo P t with
  | none => simp [hf] at e
  | some p =>
    simp only [hf, if_neg hn'] at e ⊢
    split at e
    · rename_i hc; rw [if_pos hc]; cases e; exact ⟨rfl, rfl⟩
    · cases e

/-- an operation that leaves the heap yields the same over a heap that has grown -/
theorem aop_mono {ev : Operand → AV} {ty : TypeId} {op : Op} (hl : lightK op = true) {r : AV} {h1 : AH} (e : aop P ev ty h op = some (r, h1)) : h1 = h ∧ aop P ev ty h' op = some (r, h') := by
  cases op with
  | move x => simp only [aop] at e ⊢; cases e; exact ⟨rfl, rfl⟩
  | assign x => simp only [aop] at e ⊢; cases e; exact ⟨rfl, rfl⟩
  | pick c a b =>
    simp only [aop] at e ⊢
    split at e
    · cases e; exact ⟨rfl, rfl⟩
    · cases e
  | build t parts => simp only [aop] at e ⊢; obtain ⟨e1, e2⟩ := map_pair e; rw [e1]; exact ⟨e2, rfl⟩
  | buildSlice t n parts => simp only [aop] at e ⊢; exact aBuildSlice_mono k hl e
  | load t a => simp only [aop] at e ⊢; obtain ⟨e1, e2⟩ := map_pair e; rw [aLoad_mono k e1]; exact ⟨e2, rfl⟩
  | binOp b t x y t2 => simp only [aop] at e ⊢; obtain ⟨e1, e2⟩ := map_pair e; rw [aBin_mono k e1]; exact ⟨e2, rfl⟩
  | unOp b t x =>
    simp only [aop] at e ⊢
    split at e
    · obtain ⟨z, e1, e2⟩ := Option.map_eq_some_iff.1 e; cases e2; rw [e1]; exact ⟨rfl, rfl⟩
    · cases e
  | convert s d x =>
    simp only [aop] at e ⊢
    split at e
    · obtain ⟨z, e1, e2⟩ := Option.map_eq_some_iff.1 e; cases e2; rw [e1]; exact ⟨rfl, rfl⟩
    · obtain ⟨e1, e2⟩ := map_pair e; rw [aUnsafe_mono k e1]; exact ⟨e2, rfl⟩
    · obtain ⟨e1, e2⟩ := map_pair e; rw [aBytes_mono k e1]; exact ⟨e2, rfl⟩
  | nilCheck x =>
    simp only [aop] at e ⊢
    split at e
    · rename_i hn; rw [aNotNilP_mono k hn]; cases e; exact ⟨rfl, rfl⟩
    · cases e
  | typeAssert x xt t ok => simp only [aop] at e ⊢; obtain ⟨e1, e2⟩ := map_pair e; rw [e1]; exact ⟨e2, rfl⟩
  | makeFunc f a b => simp only [aop] at e ⊢; cases e; exact ⟨rfl, rfl⟩
  | makeInterface t x =>
    simp only [aop] at e ⊢
    split at e
    · cases e
    · cases e; exact ⟨rfl, rfl⟩
    · cases e
  | slice t x lo hi mx =>
    simp only [aop] at e ⊢
    cases mx with
    | none => simp only at e ⊢; obtain ⟨e1, e2⟩ := map_pair e; rw [aSlice_mono k e1]; exact ⟨e2, rfl⟩
    | some m => simp [lightK] at hl
  | fieldAddr t x i => simp only [aop] at e ⊢; obtain ⟨e1, e2⟩ := map_pair e; rw [aFieldAddr_mono k e1]; exact ⟨e2, rfl⟩
  | field t x i => simp only [aop] at e ⊢; obtain ⟨e1, e2⟩ := map_pair e; rw [e1]; exact ⟨e2, rfl⟩
  | indexAddr t x i => simp only [aop] at e ⊢; obtain ⟨e1, e2⟩ := map_pair e; rw [aIndexAddr_mono k e1]; exact ⟨e2, rfl⟩
  | index t x i =>
    simp only [aop] at e ⊢
    split at e
    · obtain ⟨z, e1, e2⟩ := Option.map_eq_some_iff.1 e; cases e2; rw [e1]; exact ⟨rfl, rfl⟩
    · cases e
  | lookup t x y ok => simp only [aop] at e ⊢; obtain ⟨e1, e2⟩ := map_pair e; rw [aLookup_mono k e1]; exact ⟨e2, rfl⟩
  | extract t i => simp only [aop] at e ⊢; obtain ⟨e1, e2⟩ := map_pair e; rw [e1]; exact ⟨e2, rfl⟩
  | call c =>
    obtain ⟨cal, args, tys⟩ := c
    cases cal with
    | builtin b =>
      cases b with
      | len =>
        simp only [aop] at e ⊢
        split at e
        · obtain ⟨e1, e2⟩ := map_pair e; rw [aLen_mono k e1]; exact ⟨e2, rfl⟩
        · cases e
      | min =>
        simp only [aop] at e ⊢
        split at e
        · obtain ⟨z, e1, e2⟩ := Option.map_eq_some_iff.1 e; cases e2; rw [e1]; exact ⟨rfl, rfl⟩
        · cases e
      | max =>
        simp only [aop] at e ⊢
        split at e
        · obtain ⟨z, e1, e2⟩ := Option.map_eq_some_iff.1 e; cases e2; rw [e1]; exact ⟨rfl, rfl⟩
        · cases e
      | unsafeSliceData =>
        simp only [aop] at e ⊢
        split at e
        · obtain ⟨e1, e2⟩ := map_pair e; rw [e1]; exact ⟨e2, rfl⟩
        · cases e
      | _ => simp [lightK] at hl
    | _ => simp [lightK] at hl
  | _ => simp [lightK] at hl
end

/-- an operation that adds keeps what was there -/
theorem aop_keep {P : Program} {h : AH} {ev : Operand → AV} {ty : TypeId} {op : Op} (hl : addsK op = true) {r : AV} {h1 : AH} (e : aop P ev ty h op = some (r, h1)) : Keep h h1 := by
  cases op with
  | alloc t =>
    simp only [aop] at e
    split at e
    · split at e
      · cases e; exact Keep.app _ _
      · cases e
    · cases e
  | box t x =>
    simp only [aop] at e
    split at e
    · cases e; exact Keep.app _ _
    · cases e
  | buildSlice t n parts =>
    simp only [aop, aBuildSlice] at e
    split at e
    · split at e
      · split at e
        · cases e; exact Keep.app _ _
        · cases e; exact Keep.refl _
      · cases e
    · cases e
  | slice t x lo hi mx =>
    cases mx with
    | none => simp [addsK] at hl
    | some m =>
      simp only [aop, aSlice0] at e
      split at e
      · split at e
        · cases e; exact Keep.app _ _
        · cases e
      · cases e
  | makeSlice t l n =>
    simp only [aop] at e
    split at e
    · rename_i x hm
      cases e
      unfold aMake at hm
      repeat' split at hm
      all_goals first
        | (cases hm; exact Keep.app _ _)
        | cases hm
    · unfold aMakeN at e
      repeat' split at e
      all_goals first
        | (cases e; exact Keep.app _ _)
        | cases e
  | makeMap t r =>
    simp only [aop] at e
    split at e
    · cases e; exact Keep.app _ _
    · split at e
      · cases e; exact Keep.app _ _
      · cases e
    · cases e
  | call c =>
    obtain ⟨cal, args, tys⟩ := c
    cases cal with
    | builtin b =>
      cases b with
      | append =>
        simp only [aop] at e
        split at e
        · unfold aAppend at e
          split at e
          · split at e
            · split at e
              · split at e
                · cases e; exact Keep.app _ _
                · cases e
              · split at e
                · rename_i hb
                  split at e
                  · cases e; exact Keep.setGrow hb _
                  · cases e
                · split at e
                  · split at e
                    · cases e; exact Keep.refl _
                    · cases e; exact Keep.app _ _
                  · cases e
                · cases e
              · cases e
            · cases e
          · cases e
        · cases e
      | _ => simp [addsK] at hl
    | _ => simp [addsK] at hl
  | _ => simp [addsK] at hl

/-- operations that write -/
def writesK : Op → Bool
  | .store .. | .mapUpdate .. | .insert .. => true
  | .call c => match c.callee with
    | .builtin .copy | .builtin .unsafeString => true
    | _ => false
  | _ => false

/-- the operands that an operation looks at -/
theorem aop_congr {P : Program} {h : AH} {ev ev' : Operand → AV} {ty : TypeId} {op : Op} (he : ∀ x ∈ op.operands, ev x = ev' x) (hl : (lightK op || addsK op || writesK op) = true) : aop P ev ty h op = aop P ev' ty h op := by
  have hp : ∀ {α : Type} (parts : Array (α × Operand)), (∀ x ∈ parts.map (·.2), ev x = ev' x) → (parts.toList.map fun p => (p.1, ev p.2)) = (parts.toList.map fun p => (p.1, ev' p.2)) := fun parts hh => by
    refine List.map_congr_left fun p hp => ?_
    rw [hh p.2 (Array.mem_map.2 ⟨p, Array.mem_def.2 hp, rfl⟩)]
  have ha : ∀ (l : Array Operand), (∀ x ∈ l, ev x = ev' x) → l.toList.map ev = l.toList.map ev' := fun l hh => List.map_congr_left fun p hp => hh p (Array.mem_def.2 hp)
  have ho : ∀ (l : Option Operand), (∀ x, l = some x → ev x = ev' x) → l.map ev = l.map ev' := fun l hh => by
    cases l with
    | none => rfl
    | some x => simp [hh x rfl]
  cases op with
  | build t parts => simp only [aop]; rw [hp parts (fun x hx => he x (by simpa [Op.operands] using hx))]
  | buildSlice t n parts => simp only [aop]; rw [hp parts (fun x hx => he x (by simpa [Op.operands] using hx))]
  | makeFunc f a b =>
    simp only [aop]
    rw [ha a (fun x hx => he x (by simp [Op.operands, hx])), ha b (fun x hx => he x (by simp [Op.operands, hx]))]
  | makeMap t r => simp only [aop]; rw [ho r (fun x hx => he x (by simp [Op.operands, hx]))]
  | slice t x l hh m =>
    simp only [aop]
    rw [ho l (fun x hx => he x (by simp [Op.operands, hx])), ho hh (fun x hx => he x (by simp [Op.operands, hx])), he x (by simp [Op.operands])]
    cases m with
    | none => rfl
    | some m => simp only; rw [he m (by simp [Op.operands])]
  | call c =>
    obtain ⟨cal, args, tys⟩ := c
    cases cal with
    | builtin b =>
      have hargs := ha args (fun x hx => he x (by simp [Op.operands, Call.operands, hx]))
      have hone : ∀ x, args.toList = [x] → ev x = ev' x := fun x hx => he x (by simp [Op.operands, Call.operands, Array.mem_def, hx])
      have htwo : ∀ x y, args.toList = [x, y] → ev x = ev' x ∧ ev y = ev' y := fun x y hx => ⟨he x (by simp [Op.operands, Call.operands, Array.mem_def, hx]), he y (by simp [Op.operands, Call.operands, Array.mem_def, hx])⟩
      cases b with
      | len =>
        simp only [aop]
        split
        · rename_i h1 h2; rw [hone _ h1]
        · rfl
      | append =>
        simp only [aop]
        split
        · rename_i h1 h2; rw [(htwo _ _ h1).1, (htwo _ _ h1).2]
        · rfl
      | min => simp only [aop]; rw [hargs]
      | max => simp only [aop]; rw [hargs]
      | cap =>
        simp only [aop]
        split
        · rename_i h1 h2; rw [hone _ h1]
        · rfl
      | copy =>
        simp only [aop]
        split
        · rename_i h1 h2; rw [(htwo _ _ h1).1, (htwo _ _ h1).2]
        · rfl
      | unsafeString =>
        simp only [aop]
        split
        · rename_i h1 h2; rw [(htwo _ _ h1).1, (htwo _ _ h1).2]
        · rfl
      | unsafeSliceData =>
        simp only [aop]
        split
        · rename_i h1; rw [hone _ h1]
        · rfl
      | _ => rfl
    | _ => simp [lightK, addsK, writesK] at hl
  | _ =>
    first
      | (simp [lightK, addsK, writesK] at hl; done)
      | (simp [Op.operands] at he; simp only [aop, he]; done)
      | (simp only [aop]; done)
end Go.Proofs.YthkiabcdkhpheaaDoor.Ab

/-
  The abstract program logic: a region whose operations come in any order that their edges allow.
-/
set_option linter.unusedVariables false
namespace Go.Proofs.YthkiabcdkhpheaaDoor.Ab

/-! ### what comes before what -/

inductive Anc (ops : Array Oper) : Nat → Nat → Prop
  | edge (j : Nat) (o : Oper) (e : Edge) (ho : ops[j]? = some o) (he : e ∈ o.after) (hb : Region.binds .any e = true) : Anc ops e.on j
  | trans {i j k : Nat} : Anc ops i j → Anc ops j k → Anc ops i k

def maskOf (acc : List Nat) (o : Oper) : Nat := o.after.toList.foldl (fun s e => if Region.binds .any e then s ||| 2 ^ e.on ||| acc.getD e.on 0 else s) 0
def masks : List Oper → List Nat → List Nat
  | [], acc => acc
  | o :: l, acc => masks l (acc ++ [maskOf acc o])

theorem maskOf_spec {ops : Array Oper} {acc : List Nat} {o : Oper} {j : Nat} (ho : ops[j]? = some o) (hacc : ∀ (k i : Nat), (acc.getD k 0).testBit i = true → Anc ops i k) {i : Nat} (h : (maskOf acc o).testBit i = true) : Anc ops i j := by
  have go : ∀ (l : List Edge) (s : Nat), (∀ e ∈ l, e ∈ o.after) → (∀ i, s.testBit i = true → Anc ops i j) → ∀ i, (l.foldl (fun s e => if Region.binds .any e then s ||| 2 ^ e.on ||| acc.getD e.on 0 else s) s).testBit i = true → Anc ops i j := by
    intro l
    induction l with
    | nil => intro s _ hs i hi; exact hs i hi
    | cons e l ih =>
      intro s hl hs i hi
      refine ih _ (fun e he => hl e (by simp [he])) ?_ i hi
      intro i hi
      dsimp only at hi
      split at hi
      · rename_i hb
        have hedge := Anc.edge j o e ho (hl e (by simp)) hb
        simp only [Nat.testBit_or, Bool.or_eq_true] at hi
        rcases hi with (hi | hi) | hi
        · exact hs i hi
        · rw [Nat.testBit_two_pow] at hi
          have : e.on = i := by simpa using hi
          exact this ▸ hedge
        · exact (hacc _ _ hi).trans hedge
      · exact hs i hi
  exact go _ 0 (fun e he => Array.mem_def.2 he) (fun i hi => by simp at hi) i h

theorem masks_spec {ops : Array Oper} : ∀ (l : List Oper) (acc : List Nat), (∀ (j : Nat) o, l[j]? = some o → ops[acc.length + j]? = some o) → (∀ (k i : Nat), (acc.getD k 0).testBit i = true → Anc ops i k) →
    ∀ (k i : Nat), ((masks l acc).getD k 0).testBit i = true → Anc ops i k
  | [], acc, _, h => h
  | o :: l, acc, hl, h => by
    refine masks_spec l _ (fun j o' hj => ?_) ?_
    · have := hl (j + 1) o' (by simpa using hj)
      simpa [Nat.add_assoc, Nat.add_comm 1 j] using this
    · intro k i hk
      simp only [List.getD_eq_getElem?_getD] at hk
      by_cases hlt : k < acc.length
      · rw [List.getElem?_append_left hlt, ← List.getD_eq_getElem?_getD] at hk; exact h k i hk
      · by_cases heq : k = acc.length
        · subst heq
          rw [List.getElem?_append_right (Nat.le_refl _)] at hk
          simp only [Nat.sub_self, List.getElem?_cons_zero, Option.getD_some] at hk
          exact maskOf_spec (by simpa using hl 0 o (by simp)) h hk
        · rw [List.getElem?_eq_none (by simp; omega)] at hk
          simp at hk

/-- a set of operations that holds what comes before its own -/
def Down (ops : Array Oper) (S : Nat → Bool) : Prop := ∀ (j : Nat) o, ops[j]? = some o → S j = true → ∀ e ∈ o.after, Region.binds .any e = true → S e.on = true
theorem Down.anc {ops : Array Oper} {S : Nat → Bool} (h : Down ops S) {i j : Nat} (ha : Anc ops i j) : S j = true → S i = true := by
  induction ha with
  | edge j o e ho he hb => exact fun hj => h j o ho hj e he hb
  | trans _ _ ih1 ih2 => exact fun hk => ih1 (ih2 hk)

/-! ### one order, that of the page -/

/-- classes: 0 an operation that leaves the heap, 1 one that does not look at it, 2 one that changes it, 3 a call that adds to it -/
def tmpsOf (l : List Operand) : List Nat := l.filterMap fun | .tmp t => some t | _ => none
def readsOf (ops : Array Oper) (o : Oper) : List Nat := tmpsOf o.op.operands.toList ++ match o.guard with
  | some (j, _) => ((ops[j]?).bind (·.dst)).toList
  | none => []

def clash (ops : Array Oper) (a b : Oper) (ca cb : Nat) : Bool :=
  (match a.dst with | some d => (readsOf ops b).contains d || b.dst == some d | none => false) || (match b.dst with | some d => (readsOf ops a).contains d | none => false) ||
  (decide (2 ≤ ca) && cb != 1) || (ca != 1 && decide (2 ≤ cb) && !(addsK b.op || cb == 3))

def pairsOk (ops : Array Oper) (ms : List Nat) : List (Nat × Nat) → Bool
  | [] => true
  | (i, ci) :: l => (l.all fun p => match ops[i]?, ops[p.1]? with
      | some a, some b => !clash ops a b ci p.2 || (ms.getD p.1 0).testBit i
      | _, _ => false) && pairsOk ops ms l

def topo (ops : Array Oper) : List Nat → List (Nat × Nat) → Bool
  | _, [] => true
  | pre, (i, _) :: l => (match ops[i]? with
    | some o => o.after.toList.all fun e => !Region.binds .any e || pre.contains e.on
    | none => false) && topo ops (i :: pre) l

def isCall (o : Oper) : Bool := match o.op with
  | .call c => match c.callee with | .value _ => true | _ => false
  | _ => false
def kindOk (o : Oper) (c : Nat) : Bool :=
  isCall o || (lightK o.op && decide (c < 2)) || (c == 2 && (addsK o.op || writesK o.op))

def noDup : List Nat → Bool
  | [] => true
  | x :: l => !l.contains x && noDup l

def anyOk (ops : Array Oper) (π : List (Nat × Nat)) : Bool :=
  π.length == ops.size && pairsOk ops (masks ops.toList []) π && topo ops [] π && noDup (π.map (·.1)) && ((List.range ops.size).all fun i => (π.map (·.1)).contains i) &&
  π.all fun p => match ops[p.1]? with | some o => kindOk o p.2 | none => false

/-- what an operation yields -/
def StepA (P : Program) (ops : Array Oper) (tm : Nat → AV) (h : AH) (c : Nat) (o : Oper) (r : AV) (h' : AH) : Prop :=
  match awanted ops tm o with
  | some false => r = .v undef ∧ h' = h
  | some true =>
    match o.op with
    | .call ⟨.value f, args, tys⟩ => if 2 ≤ c then FunW P (AS.ev ⟨tm, []⟩ f) (args.toList.map (AS.ev ⟨tm, []⟩)) h (fun out h'' => out = .ret r ∧ h'' = h') ∧ (c = 3 → Keep h h') else (∀ hx, FunW P (AS.ev ⟨tm, []⟩ f) (args.toList.map (AS.ev ⟨tm, []⟩)) hx fun out h'' => out = .ret r ∧ h'' = hx) ∧ h' = h
    | op => if c = 1 then (∃ h1, aop P (AS.ev ⟨tm, []⟩) o.type [] op = some (r, h1)) ∧ h' = h else aop P (AS.ev ⟨tm, []⟩) o.type h op = some (r, h')
  | none => False

theorem ev_any (tm : Nat → AV) (h h' : AH) (x : Operand) : AS.ev ⟨tm, h⟩ x = AS.ev ⟨tm, h'⟩ x := by cases x <;> rfl

/-- it looks at its operands and its guard alone -/
theorem awanted_congr {ops : Array Oper} {tm tm' : Nat → AV} {o : Oper} (h : ∀ t ∈ readsOf ops o, tm t = tm' t) : awanted ops tm o = awanted ops tm' o := by
  unfold awanted
  cases hg : o.guard with
  | none => rfl
  | some jw =>
    obtain ⟨j, want⟩ := jw
    simp only
    cases hd : (ops[j]?).bind (·.dst) with
    | none => rfl
    | some d =>
      have : tm d = tm' d := h d (by unfold readsOf; rw [hg]; simp [hd])
      simp only [this]

theorem ev_congr {ops : Array Oper} {tm tm' : Nat → AV} {o : Oper} (h : ∀ t ∈ readsOf ops o, tm t = tm' t) : ∀ x ∈ o.op.operands, AS.ev ⟨tm, []⟩ x = AS.ev ⟨tm', []⟩ x := by
  intro x hx
  cases x with
  | tmp t => exact h t (by unfold readsOf tmpsOf; exact List.mem_append_left _ (List.mem_filterMap.2 ⟨.tmp t, Array.mem_def.1 hx, rfl⟩))
  | _ => rfl

theorem isCall_spec {o : Oper} (h : isCall o = true) : ∃ f args tys, o.op = .call ⟨.value f, args, tys⟩ := by
  unfold isCall at h
  cases ho : o.op with
  | call c =>
    obtain ⟨cal, args, tys⟩ := c
    cases cal with
    | value f => exact ⟨f, args, tys, rfl⟩
    | _ => simp [ho] at h
  | _ => simp [ho] at h

/-- taken at another state -/
theorem StepA.turn {P : Program} {ops : Array Oper} {tm tm' : Nat → AV} {h h2 h' : AH} {c : Nat} {o : Oper} {r : AV} (hs : StepA P ops tm h c o r h') (hk : kindOk o c = true) (ht : ∀ t ∈ readsOf ops o, tm' t = tm t)
    (hh : (2 ≤ c ∧ h2 = h) ∨ (c < 2 ∧ (c = 1 ∨ Keep h h2))) (N : Nat) :
    (awanted ops tm' o = some false ∧ r = .v undef ∧ (if 2 ≤ c then h' else h2) = h2) ∨
    (awanted ops tm' o = some true ∧ ∀ (K : AS → Prop) (E : AV → AS → Prop), K (AS.put N ⟨tm', if 2 ≤ c then h' else h2⟩ o.dst r) → OpW P N o ⟨tm', h2⟩ K E) := by
  unfold StepA at hs
  rw [awanted_congr ht]
  split at hs
  · rename_i hw
    obtain ⟨rfl, rfl⟩ := hs
    refine .inl ⟨hw, rfl, ?_⟩
    rcases hh with ⟨_, rfl⟩ | ⟨hc, _⟩
    · simp
    · rw [if_neg (by omega)]
  · rename_i hw
    refine .inr ⟨hw, fun K E hK => ?_⟩
    split at hs
    · rename_i f args tys hop
      unfold OpW
      simp only [hop]
      have hev := ev_congr ht
      rw [hop] at hev
      have h1 : AS.ev ⟨tm', h2⟩ f = AS.ev ⟨tm, []⟩ f := (ev_any _ _ _ _).trans (hev f (by simp [Op.operands, Call.operands]))
      have h2' : args.toList.map (AS.ev ⟨tm', h2⟩) = args.toList.map (AS.ev ⟨tm, []⟩) := List.map_congr_left fun x hx => (ev_any _ _ _ _).trans (hev x (by simp [Op.operands, Call.operands, Array.mem_def, hx]))
      rw [h1, h2']
      by_cases hc : 2 ≤ c
      · rw [if_pos hc] at hs hK
        rcases hh with ⟨_, rfl⟩ | ⟨hc', _⟩
        · exact hs.1.mono fun out h'' ⟨e1, e2⟩ => by subst e1; subst e2; exact hK
        · omega
      · rw [if_neg hc] at hs hK
        exact (hs.1 h2).mono fun out h'' ⟨e1, e2⟩ => by subst e1; subst e2; exact hK
    · rename_i op hnc
      have hcall : isCall o = false := by
        cases hc : isCall o with
        | false => rfl
        | true => obtain ⟨f, args, tys, e⟩ := isCall_spec hc; exact (hnc _ _ _ e).elim
      simp only [kindOk, hcall, Bool.false_or, Bool.or_eq_true, Bool.and_eq_true] at hk
      -- what it is over the heap at hand
      have key : aop P (AS.ev ⟨tm', h2⟩) o.type h2 o.op = some (r, if 2 ≤ c then h' else h2) := by
        have hcongr : ∀ hx, aop P (AS.ev ⟨tm', h2⟩) o.type hx o.op = aop P (AS.ev ⟨tm, []⟩) o.type hx o.op := fun hx => by
          refine aop_congr (fun x hx => (ev_any _ _ _ _).trans (ev_congr ht x hx)) ?_
          rcases hk with ⟨h1, _⟩ | ⟨_, h1 | h1⟩
          · simp [h1]
          · simp [h1]
          · simp [h1]
        rw [hcongr]
        rcases hh with ⟨hc, rfl⟩ | ⟨hc, hh⟩
        · rw [if_neg (by omega)] at hs
          rw [if_pos hc]; exact hs
        · have hl : lightK o.op = true := by
            rcases hk with ⟨h1, _⟩ | ⟨h1, _⟩
            · exact h1
            · simp at h1; omega
          rw [if_neg (by omega)]
          by_cases hc1 : c = 1
          · rw [if_pos hc1] at hs
            obtain ⟨⟨h1, hs⟩, _⟩ := hs
            exact (aop_mono (Keep.nil h2) hl hs).2
          · rw [if_neg hc1] at hs
            rcases hh with hh | hh
            · exact (hc1 hh).elim
            · exact (aop_mono hh hl hs).2
      unfold OpW
      split
      · rename_i t ps hop
        rw [hop] at key
        simp only [aop] at key
        have key0 := key
        unfold aBuildSlice at key
        cases he : elemInfo P t with
        | none => simp [he] at key
        | some en =>
          obtain ⟨e, n⟩ := en
          simp only [he, if_true] at key
          split at key
          · rename_i hcond
            have hps : ps.toList = [] := by
              have := congrArg List.length hcond.1
              simpa using this
            simp only [Option.some.injEq, Prod.mk.injEq] at key
            obtain ⟨e1, e2⟩ := key
            simp only [hps, List.map_nil] at key0 ⊢
            rw [← e2] at hK key0
            rw [← e1] at hK key0
            exact ⟨key0, .inl hK⟩
          · cases key
      · rename_i q hop
        obtain ⟨cal, args, tys⟩ := q
        cases cal with
        | value f => simp [isCall, hop] at hcall
        | _ => simp only [key]; exact hK
      · rename_i x hop
        rw [hop] at key; simp [aop] at key
      · rw [key]; exact hK
  · exact hs.elim

/-! ### the operations of a set, in the order of the page -/

structure Tr where
  i : Nat
  c : Nat
  o : Oper
  r : AV
  h' : AH

def putT (N : Nat) (tm : Nat → AV) (d : Option Tmp) (r : AV) : Nat → AV := match d with
  | some d => if d < N then upd tm d r else tm
  | none => tm
theorem put_eq (N : Nat) (tm : Nat → AV) (h : AH) (d : Option Tmp) (r : AV) : AS.put N ⟨tm, h⟩ d r = ⟨putT N tm d r, h⟩ := by
  cases d with
  | none => rfl
  | some d => simp only [AS.put, putT]; split <;> rfl
theorem putT_ne {N : Nat} {tm : Nat → AV} {d : Option Tmp} {r : AV} {x : Nat} (h : d ≠ some x) : putT N tm d r x = tm x := by
  cases d with
  | none => rfl
  | some d =>
    simp only [putT]
    split
    · rw [upd_ne]; intro e; exact h (by rw [e])
    · rfl
theorem putT_congr {N : Nat} {tm tm' : Nat → AV} {d : Option Tmp} {r : AV} {x : Nat} (h : d ≠ some x → tm x = tm' x) (h' : tm x = tm' x ∨ x < N) : putT N tm d r x = putT N tm' d r x := by
  cases d with
  | none => exact h (by simp)
  | some d =>
    simp only [putT]
    by_cases hx : x = d
    · subst hx
      split
      · simp
      · rename_i hn
        rcases h' with h' | h'
        · exact h'
        · exact (hn h').elim
    · have := h (by intro e; cases e; exact hx rfl)
      split
      · rw [upd_ne _ _ hx, upd_ne _ _ hx]; exact this
      · exact this

def tmS (N : Nat) (S : Nat → Bool) : List Tr → (Nat → AV) → (Nat → AV)
  | [], f => f
  | t :: l, f => tmS N S l (if S t.i then putT N f t.o.dst t.r else f)
def hS (S : Nat → Bool) : List Tr → AH → AH
  | [], h => h
  | t :: l, h => hS S l (if S t.i && decide (2 ≤ t.c) then t.h' else h)

theorem tmS_app (N : Nat) (S : Nat → Bool) : ∀ (l m : List Tr) (f : Nat → AV), tmS N S (l ++ m) f = tmS N S m (tmS N S l f)
  | [], m, f => rfl
  | t :: l, m, f => tmS_app N S l m _
theorem hS_app (S : Nat → Bool) : ∀ (l m : List Tr) (f : AH), hS S (l ++ m) f = hS S m (hS S l f)
  | [], m, f => rfl
  | t :: l, m, f => hS_app S l m _

/-- nothing of the set writes it -/
theorem tmS_skip {N : Nat} {S : Nat → Bool} {x : Nat} : ∀ {l : List Tr} {f : Nat → AV}, (∀ t ∈ l, S t.i = true → t.o.dst ≠ some x) → tmS N S l f x = f x
  | [], f, h => rfl
  | t :: l, f, h => by
    simp only [tmS]
    rw [tmS_skip (fun t ht => h t (by simp [ht]))]
    split
    · rename_i hs; exact putT_ne (h t (by simp) hs)
    · rfl
/-- all that writes it is in the set -/
theorem tmS_same {N : Nat} {S S' : Nat → Bool} {x : Nat} : ∀ {l : List Tr} {f f' : Nat → AV}, f x = f' x → (∀ t ∈ l, t.o.dst = some x → S t.i = S' t.i) → tmS N S l f x = tmS N S' l f' x
  | [], f, f', hf, h => hf
  | t :: l, f, f', hf, h => by
    simp only [tmS]
    refine tmS_same ?_ (fun t ht => h t (by simp [ht]))
    by_cases hd : t.o.dst = some x
    · rw [h t (by simp) hd]
      split
      · exact putT_congr (fun _ => hf) (.inl hf)
      · exact hf
    · have e1 : ∀ (b : Bool) (g : Nat → AV), (if b = true then putT N g t.o.dst t.r else g) x = g x := fun b g => by
        split
        · exact putT_ne hd
        · rfl
      rw [e1, e1]; exact hf
theorem hS_same {S S' : Nat → Bool} : ∀ {l : List Tr} {f : AH}, (∀ t ∈ l, 2 ≤ t.c → S t.i = S' t.i) → hS S l f = hS S' l f
  | [], f, h => rfl
  | t :: l, f, h => by
    simp only [hS]
    by_cases hc : 2 ≤ t.c
    · rw [h t (by simp) hc]; exact hS_same fun t ht => h t (by simp [ht])
    · have : (decide (2 ≤ t.c)) = false := by simpa using hc
      rw [this, Bool.and_false, Bool.and_false]; exact hS_same fun t ht => h t (by simp [ht])
theorem hS_skip {S : Nat → Bool} : ∀ {l : List Tr} {f : AH}, (∀ t ∈ l, 2 ≤ t.c → S t.i = false) → hS S l f = f
  | [], f, h => rfl
  | t :: l, f, h => by
    simp only [hS]
    have : (S t.i && decide (2 ≤ t.c)) = false := by
      by_cases hc : 2 ≤ t.c
      · rw [h t (by simp) hc]; rfl
      · have : (decide (2 ≤ t.c)) = false := by simpa using hc
        rw [this, Bool.and_false]
    rw [this]
    exact hS_skip fun t ht => h t (by simp [ht])

/-- a run of the page -/
inductive Runs (P : Program) (N : Nat) (ops : Array Oper) : List Tr → (Nat → AV) → AH → Prop
  | nil (tm : Nat → AV) (h : AH) : Runs P N ops [] tm h
  | cons (t : Tr) (l : List Tr) (tm : Nat → AV) (h : AH) (ho : ops[t.i]? = some t.o) (hk : kindOk t.o t.c = true) (hs : StepA P ops tm h t.c t.o t.r t.h') (hl : Runs P N ops l (putT N tm t.o.dst t.r) (if 2 ≤ t.c then t.h' else h)) : Runs P N ops (t :: l) tm h

theorem Runs.split {P : Program} {N : Nat} {ops : Array Oper} : ∀ {l m : List Tr} {tm : Nat → AV} {h : AH}, Runs P N ops (l ++ m) tm h → Runs P N ops m (tmS N (fun _ => true) l tm) (hS (fun _ => true) l h)
  | [], m, tm, h, H => H
  | t :: l, m, tm, h, H => by
    cases H with
    | cons t l tm h ho hk hs hl =>
      have := Runs.split hl
      simp only [tmS, hS, if_true, Bool.true_and, decide_eq_true_eq]
      exact this

/-- what is added between -/
theorem Runs.keep {P : Program} {N : Nat} {ops : Array Oper} {S : Nat → Bool} : ∀ {l : List Tr} {tm : Nat → AV} {h : AH}, Runs P N ops l tm h → (∀ t ∈ l, 2 ≤ t.c → S t.i = true → (addsK t.o.op || t.c == 3) = true) →
    l.Pairwise (fun a b => 2 ≤ a.c → 2 ≤ b.c → S b.i = true → S a.i = true) → Keep h (hS S l h)
  | [], tm, h, H, _, _ => Keep.refl h
  | t :: l, tm, h, H, ha, hp => by
    cases H with
    | cons t l tm h ho hk hs hl =>
      simp only [hS]
      obtain ⟨hp1, hp2⟩ := List.pairwise_cons.1 hp
      by_cases hc : 2 ≤ t.c
      · cases hS' : S t.i with
        | true =>
          simp only [hc, decide_true, Bool.and_self, if_true]
          rw [if_pos hc] at hl
          refine Keep.trans ?_ (Runs.keep hl (fun t ht => ha t (by simp [ht])) hp2)
          have hadd := ha t (by simp) hc hS'
          unfold StepA at hs
          split at hs
          · rw [hs.2]; exact Keep.refl _
          · split at hs
            · rename_i f args tys hop
              rw [if_pos hc] at hs
              refine hs.2 ?_
              rw [hop] at hadd
              simpa [addsK] using hadd
            · rename_i op hnc
              rw [if_neg (by omega)] at hs
              have hcall : isCall t.o = false := by
                cases hc : isCall t.o with
                | false => rfl
                | true => obtain ⟨f, args, tys, e⟩ := isCall_spec hc; exact (hnc _ _ _ e).elim
              simp only [kindOk, hcall, Bool.false_or, Bool.or_eq_true, Bool.and_eq_true, decide_eq_true_eq, beq_iff_eq] at hk
              have h2 : t.c = 2 := by
                rcases hk with ⟨_, h⟩ | ⟨h, _⟩
                · omega
                · exact h
              refine aop_keep ?_ hs
              simpa [h2] using hadd
          · exact hs.elim
        | false =>
          simp only [Bool.false_and, Bool.false_eq_true, if_false]
          rw [hS_skip (fun t' ht' hc' => ?_)]
          · exact Keep.refl _
          · cases hb : S t'.i with
            | false => rfl
            | true => have := hp1 t' ht' hc hc' hb; rw [hS'] at this; cases this
      · have : (decide (2 ≤ t.c)) = false := by simpa using hc
        rw [if_neg hc] at hl
        rw [this, Bool.and_false]
        exact Runs.keep hl (fun t ht => ha t (by simp [ht])) hp2

/-! ### the walk -/

/-- a call that leaves the heap, whatever the heap -/
def CallA (P : Program) (N : Nat) (fv : AV) (args : List AV) (s : AS) (d : Option Tmp) (K : AS → Prop) : Prop :=
  ∃ r, (∀ hx, FunW P fv args hx fun out h'' => out = .ret r ∧ h'' = hx) ∧ K (AS.put N s d r)

/-- a call that changes the heap -/
def CallH (P : Program) (N c : Nat) (fv : AV) (args : List AV) (s : AS) (d : Option Tmp) (K : AS → Prop) : Prop :=
  ∃ r h', FunW P fv args s.h (fun out h'' => out = .ret r ∧ h'' = h') ∧ (c = 3 → Keep s.h h') ∧ K (AS.put N { s with h := h' } d r)

def AnyO (P : Program) (N : Nat) (ops : Array Oper) (c : Nat) (o : Oper) (s : AS) (K : AS → Prop) : Prop :=
  match awanted ops s.tm o with
  | some false => K (AS.put N s o.dst (.v undef))
  | some true =>
    match o.op with
    | .call ⟨.value f, args, tys⟩ => if 2 ≤ c then CallH P N c (s.ev f) (args.toList.map s.ev) s o.dst K else CallA P N (s.ev f) (args.toList.map s.ev) s o.dst K
    | op => match aop P s.ev o.type (if c = 1 then [] else s.h) op with
      | some (r, h') => K (AS.put N { s with h := if c = 1 then s.h else h' } o.dst r)
      | none => False
  | none => False

def AnyW (P : Program) (N : Nat) (ops : Array Oper) : List (Nat × Nat) → (AS → Prop) → AS → Prop
  | [], K, s => K s
  | (i, c) :: l, K, s => match ops[i]? with
    | some o => AnyO P N ops c o s (AnyW P N ops l K)
    | none => False

theorem anyW_runs {P : Program} {N : Nat} {ops : Array Oper} {K : AS → Prop} : ∀ {π : List (Nat × Nat)} {tm : Nat → AV} {h : AH}, AnyW P N ops π K ⟨tm, h⟩ → (π.all fun p => match ops[p.1]? with | some o => kindOk o p.2 | none => false) = true →
    ∃ tr : List Tr, tr.map (fun t => (t.i, t.c)) = π ∧ Runs P N ops tr tm h ∧ K ⟨tmS N (fun _ => true) tr tm, hS (fun _ => true) tr h⟩
  | [], tm, h, H, _ => ⟨[], rfl, .nil _ _, H⟩
  | (i, c) :: π, tm, h, H, hk => by
    simp only [List.all_cons, Bool.and_eq_true] at hk
    obtain ⟨hk1, hk2⟩ := hk
    simp only [AnyW] at H
    cases ho : ops[i]? with
    | none => simp [ho] at H
    | some o =>
      simp only [ho] at H hk1
      -- a step, and the rest
      have fin : ∀ (r : AV) (h' : AH), StepA P ops tm h c o r h' → AnyW P N ops π K ⟨putT N tm o.dst r, if 2 ≤ c then h' else h⟩ →
          ∃ tr : List Tr, tr.map (fun t => (t.i, t.c)) = (i, c) :: π ∧ Runs P N ops tr tm h ∧ K ⟨tmS N (fun _ => true) tr tm, hS (fun _ => true) tr h⟩ := by
        intro r h' hs hw
        obtain ⟨tr, h1, h2, h3⟩ := anyW_runs hw hk2
        refine ⟨⟨i, c, o, r, h'⟩ :: tr, by simp [h1], .cons ⟨i, c, o, r, h'⟩ tr tm h ho hk1 hs h2, ?_⟩
        simp only [tmS, hS, if_true, Bool.true_and, decide_eq_true_eq]
        exact h3
      unfold AnyO at H
      simp only at H
      split at H
      · rename_i hw
        rw [put_eq] at H
        refine fin (.v undef) h (by unfold StepA; simp only [hw, and_self]) ?_
        simpa using H
      · rename_i hw
        split at H
        · rename_i f args tys hop
          have h1 : AS.ev ⟨tm, []⟩ f = AS.ev ⟨tm, h⟩ f := ev_any _ _ _ _
          have h2 : args.toList.map (AS.ev ⟨tm, []⟩) = args.toList.map (AS.ev ⟨tm, h⟩) := List.map_congr_left fun x _ => ev_any _ _ _ _
          by_cases hc : 2 ≤ c
          · rw [if_pos hc] at H
            obtain ⟨r, h', hf, hkp, H⟩ := H
            rw [put_eq] at H
            refine fin r h' ?_ (by rw [if_pos hc]; exact H)
            unfold StepA
            simp only [hw, hop, if_pos hc]
            rw [h1, h2]
            exact ⟨hf, hkp⟩
          · rw [if_neg hc] at H
            obtain ⟨r, hf, H⟩ := H
            rw [put_eq] at H
            refine fin r h ?_ (by simpa using H)
            unfold StepA
            simp only [hw, hop, if_neg hc, and_true]
            intro hx
            rw [h1, h2]
            exact hf hx
        · rename_i op hnc
          have hev : AS.ev ⟨tm, h⟩ = AS.ev ⟨tm, []⟩ := funext fun x => ev_any _ _ _ _
          have hstep : ∀ r h', (if c = 1 then (∃ h1, aop P (AS.ev ⟨tm, []⟩) o.type [] o.op = some (r, h1)) ∧ h' = h else aop P (AS.ev ⟨tm, []⟩) o.type h o.op = some (r, h')) → StepA P ops tm h c o r h' := by
            intro r h' hh
            unfold StepA
            rw [hw]
            cases hop : o.op with
            | call q =>
              obtain ⟨cal, args, tys⟩ := q
              cases cal with
              | value f => exact (hnc _ _ _ hop).elim
              | _ => rw [hop] at hh; exact hh
            | _ => rw [hop] at hh; exact hh
          split at H
          · rename_i r h' ha
            rw [put_eq] at H
            rw [hev] at ha
            by_cases hc1 : c = 1
            · subst hc1
              simp only [if_true] at ha
              refine fin r h (hstep r h ?_) ?_
              · rw [if_pos rfl]; exact ⟨⟨_, ha⟩, rfl⟩
              · simpa using H
            · simp only [if_neg hc1] at ha H
              refine fin r h' (hstep r h' (by rw [if_neg hc1]; exact ha)) ?_
              by_cases hc2 : 2 ≤ c
              · rw [if_pos hc2]; exact H
              · rw [if_neg hc2]
                have hl : lightK o.op = true := by
                  have hcall : isCall o = false := by
                    cases hc : isCall o with
                    | false => rfl
                    | true => obtain ⟨f, args, tys, e⟩ := isCall_spec hc; exact (hnc _ _ _ e).elim
                  simp only [kindOk, hcall, Bool.false_or, Bool.or_eq_true, Bool.and_eq_true] at hk1
                  rcases hk1 with ⟨h1, _⟩ | ⟨h1, _⟩
                  · exact h1
                  · simp at h1; exact (hc2 (by omega)).elim
                have := (aop_mono (Keep.refl h) hl ha).1
                rw [← this]; exact H
          · exact H.elim
      · exact H.elim

theorem pairs_spec {ops : Array Oper} {ms : List Nat} (hm : ∀ (k i : Nat), (ms.getD k 0).testBit i = true → Anc ops i k) : ∀ (tr : List Tr), pairsOk ops ms (tr.map fun t => (t.i, t.c)) = true → (∀ t ∈ tr, ops[t.i]? = some t.o) →
    tr.Pairwise (fun a b => clash ops a.o b.o a.c b.c = true → Anc ops a.i b.i)
  | [], _, _ => .nil
  | t :: l, h, ho => by
    simp only [List.map_cons, pairsOk, Bool.and_eq_true, List.all_eq_true] at h
    refine List.pairwise_cons.2 ⟨fun b hb hc => ?_, pairs_spec hm l h.2 fun t ht => ho t (by simp [ht])⟩
    have := h.1 (b.i, b.c) (List.mem_map.2 ⟨b, hb, rfl⟩)
    simp only [ho t (by simp), ho b (by simp [hb]), hc, Bool.not_true, Bool.false_or] at this
    exact hm _ _ this

theorem noDup_spec : ∀ {l : List Nat}, noDup l = true → l.Nodup
  | [], _ => List.nodup_nil
  | x :: l, h => by
    simp only [noDup, Bool.and_eq_true, Bool.not_eq_true'] at h
    exact List.nodup_cons.2 ⟨by simpa using h.1, noDup_spec h.2⟩

theorem runs_ops {P : Program} {N : Nat} {ops : Array Oper} : ∀ {tr : List Tr} {tm : Nat → AV} {h : AH}, Runs P N ops tr tm h → ∀ t ∈ tr, ops[t.i]? = some t.o
  | [], _, _, _, t, ht => by cases ht
  | t :: l, tm, h, H, t', ht' => by
    cases H with
    | cons t l tm h ho hk hs hl =>
      rcases List.mem_cons.1 ht' with rfl | h'
      · exact ho
      · exact runs_ops hl t' h'

theorem topo_all {ops : Array Oper} {listed : Array Bool} (hsz : listed.size = ops.size) (hr : Region.ready .any ops listed = []) : ∀ (l : List (Nat × Nat)) (pre : List Nat), topo ops pre l = true → (∀ i ∈ pre, listed.getD i false = true) → ∀ p ∈ l, listed.getD p.1 false = true
  | [], _, _, _, p, hp => by cases hp
  | (i, c) :: l, pre, h, hpre, p, hp => by
    simp only [topo, Bool.and_eq_true] at h
    have hi : listed.getD i false = true := by
      cases ho : ops[i]? with
      | none => simp [ho] at h
      | some o =>
        have hlt : i < ops.size := (Array.getElem?_eq_some_iff.1 ho).1
        cases hb : listed.getD i false with
        | true => rfl
        | false =>
          have : i ∈ Region.ready .any ops listed := mem_ready.2 ⟨by
            rw [Array.getD_eq_getD_getElem?, Array.getElem?_eq_getElem (by omega)] at hb ⊢
            simpa using hb, o, ho, fun e he hbd => by
              simp only [ho, List.all_eq_true] at h
              have := h.1 e (Array.mem_def.1 he)
              rw [hbd] at this
              exact hpre _ (by simpa using this)⟩
          rw [hr] at this; cases this
    rcases List.mem_cons.1 hp with rfl | hp'
    · exact hi
    · exact topo_all hsz hr l (i :: pre) h.2 (fun j hj => by
        rcases List.mem_cons.1 hj with rfl | hj
        · exact hi
        · exact hpre j hj) p hp'

theorem getD_set {listed : Array Bool} {i j : Nat} (hi : i < listed.size) : (listed.setIfInBounds i true).getD j false = (decide (j = i) || listed.getD j false) := by
  rw [Array.getD_eq_getD_getElem?, Array.getD_eq_getD_getElem?]
  by_cases h : j = i
  · subst h; rw [Array.getElem?_setIfInBounds_self_of_lt hi]; simp
  · rw [Array.getElem?_setIfInBounds_ne (fun e => h e.symm)]; simp [h]

theorem wpAny_ab {P : Program} {N : Nat} {base : Bs × Fence} {ops : Array Oper} {F : Fence} {n : Nat} (hF : WF F) {Qx : Exit → Act → World → Prop} {tr : List Tr} {tm0 : Nat → AV} {h0 : AH} (hruns : Runs P N ops tr tm0 h0)
    (hpw : tr.Pairwise (fun a b => clash ops a.o b.o a.c b.c = true → Anc ops a.i b.i)) (htopo : topo ops [] (tr.map fun t => (t.i, t.c)) = true) (hnd : (tr.map (·.i)).Nodup) (hall : ∀ i, i < ops.size → ∃ t ∈ tr, t.i = i) (hkind : ∀ t ∈ tr, kindOk t.o t.c = true) :
    ∀ (fuel : Nat) (listed : Array Bool) (c : Cx) (a : Act), listed.size = ops.size → Down ops (fun i => listed.getD i false) → St c → SR N base c ⟨tmS N (fun i => listed.getD i false) tr tm0, hS (fun i => listed.getD i false) tr h0⟩ a →
      tr.countP (fun t => !listed.getD t.i false) ≤ fuel →
      (∀ c' a', Ev c c' → St c' → SR N base c' ⟨tmS N (fun _ => true) tr tm0, hS (fun _ => true) tr h0⟩ a' → Qx .normal a' c'.w) → wpAnyIn F n P .any ops Qx fuel listed a c.w := by
  -- the end
  have done : ∀ (listed : Array Bool) (c : Cx) (a : Act), listed.size = ops.size → St c → SR N base c ⟨tmS N (fun i => listed.getD i false) tr tm0, hS (fun i => listed.getD i false) tr h0⟩ a →
      (∀ c' a', Ev c c' → St c' → SR N base c' ⟨tmS N (fun _ => true) tr tm0, hS (fun _ => true) tr h0⟩ a' → Qx .normal a' c'.w) → (∀ t ∈ tr, listed.getD t.i false = true) → Qx .normal a c.w := by
    intro listed c a hsz hst hr hQ hl
    refine hQ c a (Ev.refl c) hst ?_
    have e1 : tmS N (fun i => listed.getD i false) tr tm0 = tmS N (fun _ => true) tr tm0 := funext fun x => tmS_same rfl fun t ht _ => hl t ht
    have e2 : hS (fun i => listed.getD i false) tr h0 = hS (fun _ => true) tr h0 := hS_same fun t ht _ => hl t ht
    rw [e1, e2] at hr
    exact hr
  have ready0 : ∀ (listed : Array Bool), listed.size = ops.size → Region.ready .any ops listed = [] → ∀ t ∈ tr, listed.getD t.i false = true := fun listed hsz h t ht =>
    topo_all hsz h _ [] htopo (fun i hi => by cases hi) (t.i, t.c) (List.mem_map.2 ⟨t, ht, rfl⟩)
  intro fuel
  induction fuel with
  | zero =>
    intro listed c a hsz hd hst hr hc hQ
    have hl : ∀ t ∈ tr, listed.getD t.i false = true := fun t ht => by
      have := List.countP_eq_zero.1 (Nat.le_zero.1 hc) t ht
      simpa using this
    refine ⟨?_, done listed c a hsz hst hr hQ hl⟩
    cases hrd : Region.ready .any ops listed with
    | nil => rfl
    | cons i l =>
      have hi : i ∈ Region.ready .any ops listed := by rw [hrd]; simp
      obtain ⟨h1, o, ho, _⟩ := mem_ready.1 hi
      have hlt : i < ops.size := (Array.getElem?_eq_some_iff.1 ho).1
      obtain ⟨t, ht, rfl⟩ := hall i hlt
      have := hl t ht
      rw [Array.getD_eq_getD_getElem?, Array.getElem?_eq_getElem (by omega)] at this h1
      simp only [Option.getD_some] at this h1
      rw [this] at h1; cases h1
  | succ fuel ih =>
    intro listed c a hsz hd hst hr hc hQ
    refine ⟨fun h => done listed c a hsz hst hr hQ (ready0 listed hsz h), fun i hi => ?_⟩
    obtain ⟨h1, o, ho, hedge⟩ := mem_ready.1 hi
    have hlt : i < ops.size := (Array.getElem?_eq_some_iff.1 ho).1
    have hSi : listed.getD i false = false := by
      rw [Array.getD_eq_getD_getElem?, Array.getElem?_eq_getElem (by omega)] at h1 ⊢
      simpa using h1
    obtain ⟨t, ht, rfl⟩ := hall i hlt
    obtain ⟨pre, post, htr⟩ := List.append_of_mem ht
    have hto : t.o = o := by
      have := runs_ops hruns t ht
      rw [ho] at this; cases this; rfl
    subst hto
    -- the set with it
    have hS' : ∀ j, (listed.setIfInBounds t.i true).getD j false = (decide (j = t.i) || listed.getD j false) := fun j => getD_set (by omega)
    have hd' : Down ops (fun j => (listed.setIfInBounds t.i true).getD j false) := by
      intro j oj hoj hj e he hb
      dsimp only at hj ⊢
      rw [hS'] at hj ⊢
      by_cases hji : j = t.i
      · subst hji
        rw [ho] at hoj; cases hoj
        rw [hedge e he hb]; simp
      · have : listed.getD j false = true := by simpa [hji] using hj
        have h2 : listed.getD e.on false = true := hd j oj hoj this e he hb
        rw [h2]; simp
    have hanc : ∀ j, Anc ops j t.i → j ≠ t.i → listed.getD j false = true := fun j hj hne => by
      have := hd'.anc hj (by show _ = true; rw [hS']; simp)
      have h2 : (listed.setIfInBounds t.i true).getD j false = true := this
      rw [hS'] at h2
      simpa [hne] using h2
    have hnot : ∀ j, Anc ops t.i j → listed.getD j false = false := fun j hj => by
      cases hb : listed.getD j false with
      | false => rfl
      | true => have := hd.anc hj hb; rw [hSi] at this; cases this
    -- the others
    have hne : ∀ b, b ∈ pre ∨ b ∈ post → b.i ≠ t.i := by
      rw [htr] at hnd
      simp only [List.map_append, List.map_cons] at hnd
      obtain ⟨n1, n2, n3⟩ := List.nodup_append.1 hnd
      intro b hb e
      rcases hb with hb | hb
      · exact n3 b.i (List.mem_map.2 ⟨b, hb, rfl⟩) t.i (by simp) e
      · exact (List.nodup_cons.1 n2).1 (List.mem_map.2 ⟨b, hb, e⟩)
    rw [htr] at hpw
    obtain ⟨p1, p2, p3⟩ := List.pairwise_append.1 hpw
    obtain ⟨p4, p5⟩ := List.pairwise_cons.1 p2
    have hpre : ∀ b ∈ pre, clash ops b.o t.o b.c t.c = true → listed.getD b.i false = true := fun b hb hcl => hanc _ (p3 b hb t (by simp) hcl) (hne b (.inl hb))
    have hpost : ∀ b ∈ post, clash ops t.o b.o t.c b.c = true → listed.getD b.i false = false := fun b hb hcl => hnot _ (p4 b hb hcl)
    have hsame : ∀ b, b ∈ pre ∨ b ∈ post → (listed.setIfInBounds t.i true).getD b.i false = listed.getD b.i false := fun b hb => by
      rw [hS']; simp [hne b hb]
    -- what it looks at
    have hsplit := hruns
    rw [htr] at hsplit
    have hs2 := Runs.split hsplit
    have hstep : StepA P ops (tmS N (fun _ => true) pre tm0) (hS (fun _ => true) pre h0) t.c t.o t.r t.h' := by cases hs2 with | cons _ _ _ _ _ _ hs _ => exact hs
    have hk : kindOk t.o t.c = true := hkind t ht
    have hreads : ∀ x ∈ readsOf ops t.o, tmS N (fun i => listed.getD i false) tr tm0 x = tmS N (fun _ => true) pre tm0 x := by
      intro x hx
      rw [htr, tmS_app, tmS_skip]
      · refine tmS_same rfl fun b hb hbd => hpre b hb ?_
        unfold clash; rw [hbd]; simp [hx]
      · intro b hb hbS hbd
        rcases List.mem_cons.1 hb with rfl | hb
        · rw [hSi] at hbS; cases hbS
        · rw [hpost b hb (by unfold clash; rw [hbd]; simp [hx])] at hbS; cases hbS
    have hclash2 : ∀ b ∈ pre, 2 ≤ b.c → t.c ≠ 1 → listed.getD b.i false = true := fun b hb h2 ht1 => hpre b hb (by unfold clash; simp [h2, ht1])
    have hheapPre : t.c ≠ 1 → hS (fun i => listed.getD i false) pre h0 = hS (fun _ => true) pre h0 := fun ht1 => hS_same fun b hb h2 => hclash2 b hb h2 ht1
    have hh : (2 ≤ t.c ∧ hS (fun i => listed.getD i false) tr h0 = hS (fun _ => true) pre h0) ∨ (t.c < 2 ∧ (t.c = 1 ∨ Keep (hS (fun _ => true) pre h0) (hS (fun i => listed.getD i false) tr h0))) := by
      by_cases hc2 : 2 ≤ t.c
      · refine .inl ⟨hc2, ?_⟩
        rw [htr, hS_app, hS_skip, hheapPre (by omega)]
        intro b hb hbc
        rcases List.mem_cons.1 hb with rfl | hb
        · exact hSi
        · have h1 : b.c ≠ 1 := by omega
          exact hpost b hb (by unfold clash; simp [hc2, h1])
      · refine .inr ⟨by omega, ?_⟩
        by_cases hc1 : t.c = 1
        · exact .inl hc1
        · refine .inr ?_
          rw [htr, hS_app, hheapPre hc1]
          refine Runs.keep hs2 ?_ ?_
          · intro b hb hbc hbS
            rcases List.mem_cons.1 hb with rfl | hb
            · exact (hc2 hbc).elim
            · cases hadd : (addsK b.o.op || b.c == 3) with
              | true => rfl
              | false =>
                rw [hpost b hb (by unfold clash; rw [hadd]; simp [hc1, hc2, hbc])] at hbS; cases hbS
          · refine p2.imp ?_
            intro x y hxy hx hy hyS
            have h1 : y.c ≠ 1 := by omega
            exact hd.anc (hxy (by unfold clash; simp [hx, h1])) hyS
    -- the state behind it
    have hpreS : tmS N (fun i => (listed.setIfInBounds t.i true).getD i false) pre tm0 = tmS N (fun i => listed.getD i false) pre tm0 := funext fun x => tmS_same rfl fun b hb _ => hsame b (.inl hb)
    have hpreH : hS (fun i => (listed.setIfInBounds t.i true).getD i false) pre h0 = hS (fun i => listed.getD i false) pre h0 := hS_same fun b hb _ => hsame b (.inl hb)
    have hSt : (listed.setIfInBounds t.i true).getD t.i false = true := by rw [hS']; simp
    have hstm : tmS N (fun i => (listed.setIfInBounds t.i true).getD i false) tr tm0 = putT N (tmS N (fun i => listed.getD i false) tr tm0) t.o.dst t.r := by
      funext x
      rw [htr, tmS_app, tmS_app, hpreS]
      simp only [tmS, hSt, hSi, if_true, Bool.false_eq_true, if_false]
      by_cases hdx : t.o.dst = some x
      · have hskip : ∀ b ∈ post, b.o.dst = some x → listed.getD b.i false = false := fun b hb hbd => hpost b hb (by unfold clash; rw [hdx, hbd]; simp)
        rw [tmS_skip (fun b hb hbS hbd => by rw [hsame b (.inr hb), hskip b hb hbd] at hbS; cases hbS)]
        have e := tmS_skip (N := N) (S := fun i => listed.getD i false) (x := x) (l := post) (f := tmS N (fun i => listed.getD i false) pre tm0) (fun b hb hbS hbd => by rw [hskip b hb hbd] at hbS; cases hbS)
        exact putT_congr (fun _ => e.symm) (.inl e.symm)
      · rw [putT_ne hdx]
        exact tmS_same (putT_ne hdx) fun b hb _ => hsame b (.inr hb)
    have hshp : hS (fun i => (listed.setIfInBounds t.i true).getD i false) tr h0 = if 2 ≤ t.c then t.h' else hS (fun i => listed.getD i false) tr h0 := by
      rw [htr, hS_app, hS_app, hpreH]
      simp only [hS, hSt, hSi, Bool.true_and, Bool.false_and, Bool.false_eq_true, if_false, decide_eq_true_eq]
      by_cases hc2 : 2 ≤ t.c
      · rw [if_pos hc2, if_pos hc2]
        refine hS_skip fun b hb hbc => ?_
        rw [hsame b (.inr hb)]
        have h1 : b.c ≠ 1 := by omega
        exact hpost b hb (by unfold clash; simp [hc2, h1])
      · rw [if_neg hc2, if_neg hc2]
        exact hS_same fun b hb _ => hsame b (.inr hb)
    have hcount : tr.countP (fun u => !(listed.setIfInBounds t.i true).getD u.i false) ≤ fuel := by
      rw [htr] at hc ⊢
      simp only [List.countP_append, List.countP_cons, hSt, hSi, Bool.not_true, Bool.not_false, Bool.false_eq_true, if_false, if_true] at hc ⊢
      have c1 : pre.countP (fun u => !(listed.setIfInBounds t.i true).getD u.i false) = pre.countP (fun u => !listed.getD u.i false) := List.countP_congr fun b hb => by rw [hsame b (.inl hb)]
      have c2 : post.countP (fun u => !(listed.setIfInBounds t.i true).getD u.i false) = post.countP (fun u => !listed.getD u.i false) := List.countP_congr fun b hb => by rw [hsame b (.inr hb)]
      rw [c1, c2]; omega
    have next : ∀ c' a', Ev c c' → St c' → SR N base c' (AS.put N ⟨tmS N (fun i => listed.getD i false) tr tm0, if 2 ≤ t.c then t.h' else hS (fun i => listed.getD i false) tr h0⟩ t.o.dst t.r) a' →
        wpAnyIn F n P .any ops Qx fuel (listed.setIfInBounds t.i true) a' c'.w := by
      intro c' a' hev hst' hr'
      rw [put_eq, ← hstm, ← hshp] at hr'
      exact ih _ c' a' (by simpa using hsz) hd' hst' hr' hcount fun c2 a2 e2 s2 r2 => hQ c2 a2 (Ev.trans hst hev e2) s2 r2
    unfold wpOpIn
    simp only [ho]
    rcases hstep.turn hk hreads hh N with ⟨hw, hru, hhe⟩ | ⟨hw, hop⟩
    · rw [awanted_sound hr hw]
      simp only [Bool.false_eq_true, if_false]
      refine ⟨fun f _ => hF.fn f, ?_⟩
      have hr' := hr.put hst (Ev.refl c) t.o.dst (.v undef)
      rw [hr.h] at hr'
      refine next c _ (Ev.refl c) hst ?_
      rw [hhe, hru]
      exact hr'
    · rw [awanted_sound hr hw]
      simp only [if_true]
      refine opW_sound (hop (fun s' => s' = AS.put N ⟨tmS N (fun i => listed.getD i false) tr tm0, if 2 ≤ t.c then t.h' else hS (fun i => listed.getD i false) tr h0⟩ t.o.dst t.r) (fun _ _ => False) rfl) hF hst hr ?_ ?_
      · intro s' c' a' hs hev hst' hr'
        subst hs
        exact next c' a' hev hst' hr'
      · intro r s' c' x hf
        exact hf.elim

theorem codeW_region_any {P : Program} {N : Nat} {Q : AExit → AS → Prop} {s : AS} {id : Nat} {ops : Array Oper} (π : List (Nat × Nat)) (hm : P.follows .mixedOrders = true) (hok : anyOk ops π = true)
    (H : ∀ (K : AS → Prop), (∀ s, Q .normal s → K s) → AnyW P N ops π K s) : CodeW P N (.region id ops true) Q s := by
  intro F n base c a hF hst hr R hR
  refine wpIn_region_any hm ?_
  obtain ⟨tm, hp⟩ := s
  simp only [anyOk, Bool.and_eq_true] at hok
  obtain ⟨⟨⟨⟨⟨hp0, hp1⟩, hp2⟩, hp3⟩, hp4⟩, hp5⟩ := hok
  obtain ⟨tr, rfl, hruns, hK⟩ := anyW_runs (H _ (fun s h => h)) hp5
  have hev : Ev c (c.to { c.w with drawn := c.w.drawn + 1 }) := Ev.idle hst (Ev.refl c) rfl rfl rfl rfl fun k => .inl rfl
  have hst' : St (c.to { c.w with drawn := c.w.drawn + 1 }) := hst.idle rfl fun k o hk => .inl hk
  have hr' : SR N (base, F) (c.to { c.w with drawn := c.w.drawn + 1 }) ⟨tm, hp⟩ a := ⟨hr.h, hr.size, Nat.le_trans hr.above hev.size, hr.defers.ev hev, RoundOk.ev hev hr.round, fun t => (hr.tm t).ev hst hev⟩
  have hops := runs_ops hruns
  have hnone : ∀ j, (Array.replicate ops.size false).getD j false = false := fun j => by
    rw [Array.getD_eq_getD_getElem?, Array.getElem?_replicate]
    split <;> rfl
  refine wpAny_ab (base := (base, F)) hF hruns (pairs_spec (masks_spec ops.toList [] (fun j o h => by simpa using h) (fun k i h => by simp at h)) tr hp1 hops) hp2 ?_ ?_ ?_ _ _ (c.to { c.w with drawn := c.w.drawn + 1 }) a (by simp) ?_ hst' ?_ ?_ ?_
  · have := noDup_spec hp3
    rw [List.map_map] at this
    exact this
  · intro i hi
    have := List.all_eq_true.1 hp4 i (List.mem_range.2 hi)
    have : i ∈ (tr.map fun t => (t.i, t.c)).map (·.1) := by simpa using this
    rw [List.map_map] at this
    obtain ⟨t, ht, rfl⟩ := List.mem_map.1 this
    exact ⟨t, ht, rfl⟩
  · intro t ht
    have := List.all_eq_true.1 hp5 (t.i, t.c) (List.mem_map.2 ⟨t, ht, rfl⟩)
    simpa [hops t ht] using this
  · intro j o ho hj
    simp only at hj
    rw [hnone] at hj; cases hj
  · have e1 : tmS N (fun i => (Array.replicate ops.size false).getD i false) tr tm = tm := funext fun x => tmS_skip fun t _ h => by rw [hnone] at h; cases h
    have e2 : hS (fun i => (Array.replicate ops.size false).getD i false) tr hp = hp := hS_skip fun t _ _ => hnone _
    rw [e1, e2]; exact hr'
  · -- as many as there are
    have : tr.length ≤ ops.size := by
      have := beq_iff_eq.1 hp0
      simp only [List.length_map] at this; omega
    exact Nat.le_trans List.countP_le_length this
  · intro c' a' h1 h2 h3
    exact hR _ _ c' a' _ hK (Ev.trans hst hev h1) h2 h3 rfl

theorem codeW_seq_any {P : Program} {N : Nat} {Q : AExit → AS → Prop} {s : AS} {id : Nat} {ops : Array Oper} {y : Code} (π : List (Nat × Nat)) (hm : P.follows .mixedOrders = true) (hok : anyOk ops π = true)
    (H : ∀ (K : AS → Prop), (∀ s, CodeW P N y Q s → K s) → AnyW P N ops π K s) : CodeW P N (.seq (.region id ops true) y) Q s :=
  codeW_seq (codeW_region_any π hm hok fun K hK => H K hK)

section
variable (P : Program) (N : Nat) (ops : Array Oper) (tm : Nat → AV) (h : AH) (K : AS → Prop)
theorem anyW_nil : AnyW P N ops [] K ⟨tm, h⟩ = K ⟨tm, h⟩ := rfl
theorem anyW_cons (i c : Nat) (l : List (Nat × Nat)) : AnyW P N ops ((i, c) :: l) K ⟨tm, h⟩ = (match ops[i]? with | some o => AnyO P N ops c o ⟨tm, h⟩ (AnyW P N ops l K) | none => False) := rfl
theorem anyO_eq (c : Nat) (o : Oper) : AnyO P N ops c o ⟨tm, h⟩ K = (match awanted ops tm o with
  | some false => K (AS.put N ⟨tm, h⟩ o.dst (.v undef))
  | some true =>
    match o.op with
    | .call ⟨.value f, args, tys⟩ => if 2 ≤ c then CallH P N c (AS.ev ⟨tm, h⟩ f) (args.toList.map (AS.ev ⟨tm, h⟩)) ⟨tm, h⟩ o.dst K else CallA P N (AS.ev ⟨tm, h⟩ f) (args.toList.map (AS.ev ⟨tm, h⟩)) ⟨tm, h⟩ o.dst K
    | op => match aop P (AS.ev ⟨tm, h⟩) o.type (if c = 1 then [] else h) op with
      | some (r, h') => K (AS.put N ⟨tm, if c = 1 then h else h'⟩ o.dst r)
      | none => False
  | none => False) := rfl
end
end Go.Proofs.YthkiabcdkhpheaaDoor.Ab

/-
  The abstract program logic: a region in which two operations are ordered with nothing between them: it comes out well if it does so in both orders.
-/
set_option linter.unusedVariables false
namespace Go.Proofs.YthkiabcdkhpheaaDoor.Ab

/-- one operation, chosen among those that are ready -/
theorem any_step {P : Program} {N : Nat} {base : Bs × Fence} {ops : Array Oper} {F : Fence} {n : Nat} (hF : WF F) {Qx : Exit → Act → World → Prop} {KK : Act → World → Prop} {tr : List Tr} {tm0 : Nat → AV} {h0 : AH} {A : Nat → Nat → Prop} (hruns : Runs P N ops tr tm0 h0)
    (hpw : tr.Pairwise (fun a b => clash ops a.o b.o a.c b.c = true → A a.i b.i)) (hnd : (tr.map (·.i)).Nodup) (hkind : ∀ t ∈ tr, kindOk t.o t.c = true)
    {listed : Array Bool} {c : Cx} {a : Act} {i : Nat} {t : Tr} (hi : i ∈ Region.ready .any ops listed) (ht : t ∈ tr) (hti : t.i = i) (hsz : listed.size = ops.size)
    (hA : ∀ i j, A i j → listed.getD j false = true → listed.getD i false = true) (hA' : ∀ i' j, A i' j → (listed.setIfInBounds i true).getD j false = true → (listed.setIfInBounds i true).getD i' false = true)
    (hst : St c) (hr : SR N base c ⟨tmS N (fun i => listed.getD i false) tr tm0, hS (fun i => listed.getD i false) tr h0⟩ a)
    (hnext : ∀ c' a', Ev c c' → St c' → SR N base c' ⟨tmS N (fun j => (listed.setIfInBounds i true).getD j false) tr tm0, hS (fun j => (listed.setIfInBounds i true).getD j false) tr h0⟩ a' → KK a' c'.w) :
    wpOpIn F n P ops Qx i KK a c.w := by
  obtain ⟨h1, o, ho, hedge⟩ := mem_ready.1 hi
  have hlt : i < ops.size := (Array.getElem?_eq_some_iff.1 ho).1
  have hSi : listed.getD i false = false := by
    rw [Array.getD_eq_getD_getElem?, Array.getElem?_eq_getElem (by omega)] at h1 ⊢
    simpa using h1
  subst hti
  obtain ⟨pre, post, htr⟩ := List.append_of_mem ht
  have hto : t.o = o := by
    have := runs_ops hruns t ht
    rw [ho] at this; cases this; rfl
  subst hto
  -- the set with it
  have hS' : ∀ j, (listed.setIfInBounds t.i true).getD j false = (decide (j = t.i) || listed.getD j false) := fun j => getD_set (by omega)
  have hanc : ∀ j, A j t.i → j ≠ t.i → listed.getD j false = true := fun j hj hne => by
    have h2 : (listed.setIfInBounds t.i true).getD j false = true := hA' _ _ hj (by rw [hS']; simp)
    rw [hS'] at h2
    simpa [hne] using h2
  have hnot : ∀ j, A t.i j → listed.getD j false = false := fun j hj => by
    cases hb : listed.getD j false with
    | false => rfl
    | true => have := hA _ _ hj hb; rw [hSi] at this; cases this
  -- the others
  have hne : ∀ b, b ∈ pre ∨ b ∈ post → b.i ≠ t.i := by
    rw [htr] at hnd
    simp only [List.map_append, List.map_cons] at hnd
    obtain ⟨n1, n2, n3⟩ := List.nodup_append.1 hnd
    intro b hb e
    rcases hb with hb | hb
    · exact n3 b.i (List.mem_map.2 ⟨b, hb, rfl⟩) t.i (by simp) e
    · exact (List.nodup_cons.1 n2).1 (List.mem_map.2 ⟨b, hb, e⟩)
  rw [htr] at hpw
  obtain ⟨p1, p2, p3⟩ := List.pairwise_append.1 hpw
  obtain ⟨p4, p5⟩ := List.pairwise_cons.1 p2
  have hpre : ∀ b ∈ pre, clash ops b.o t.o b.c t.c = true → listed.getD b.i false = true := fun b hb hcl => hanc _ (p3 b hb t (by simp) hcl) (hne b (.inl hb))
  have hpost : ∀ b ∈ post, clash ops t.o b.o t.c b.c = true → listed.getD b.i false = false := fun b hb hcl => hnot _ (p4 b hb hcl)
  have hsame : ∀ b, b ∈ pre ∨ b ∈ post → (listed.setIfInBounds t.i true).getD b.i false = listed.getD b.i false := fun b hb => by
    rw [hS']; simp [hne b hb]
  -- what it looks at
  have hsplit := hruns
  rw [htr] at hsplit
  have hs2 := Runs.split hsplit
  have hstep : StepA P ops (tmS N (fun _ => true) pre tm0) (hS (fun _ => true) pre h0) t.c t.o t.r t.h' := by cases hs2 with | cons _ _ _ _ _ _ hs _ => exact hs
  have hk : kindOk t.o t.c = true := hkind t ht
  have hreads : ∀ x ∈ readsOf ops t.o, tmS N (fun i => listed.getD i false) tr tm0 x = tmS N (fun _ => true) pre tm0 x := by
    intro x hx
    rw [htr, tmS_app, tmS_skip]
    · refine tmS_same rfl fun b hb hbd => hpre b hb ?_
      unfold clash; rw [hbd]; simp [hx]
    · intro b hb hbS hbd
      rcases List.mem_cons.1 hb with rfl | hb
      · rw [hSi] at hbS; cases hbS
      · rw [hpost b hb (by unfold clash; rw [hbd]; simp [hx])] at hbS; cases hbS
  have hclash2 : ∀ b ∈ pre, 2 ≤ b.c → t.c ≠ 1 → listed.getD b.i false = true := fun b hb h2 ht1 => hpre b hb (by unfold clash; simp [h2, ht1])
  have hheapPre : t.c ≠ 1 → hS (fun i => listed.getD i false) pre h0 = hS (fun _ => true) pre h0 := fun ht1 => hS_same fun b hb h2 => hclash2 b hb h2 ht1
  have hh : (2 ≤ t.c ∧ hS (fun i => listed.getD i false) tr h0 = hS (fun _ => true) pre h0) ∨ (t.c < 2 ∧ (t.c = 1 ∨ Keep (hS (fun _ => true) pre h0) (hS (fun i => listed.getD i false) tr h0))) := by
    by_cases hc2 : 2 ≤ t.c
    · refine .inl ⟨hc2, ?_⟩
      rw [htr, hS_app, hS_skip, hheapPre (by omega)]
      intro b hb hbc
      rcases List.mem_cons.1 hb with rfl | hb
      · exact hSi
      · have h1 : b.c ≠ 1 := by omega
        exact hpost b hb (by unfold clash; simp [hc2, h1])
    · refine .inr ⟨by omega, ?_⟩
      by_cases hc1 : t.c = 1
      · exact .inl hc1
      · refine .inr ?_
        rw [htr, hS_app, hheapPre hc1]
        refine Runs.keep hs2 ?_ ?_
        · intro b hb hbc hbS
          rcases List.mem_cons.1 hb with rfl | hb
          · exact (hc2 hbc).elim
          · cases hadd : (addsK b.o.op || b.c == 3) with
            | true => rfl
            | false =>
              rw [hpost b hb (by unfold clash; rw [hadd]; simp [hc1, hc2, hbc])] at hbS; cases hbS
        · refine p2.imp ?_
          intro x y hxy hx hy hyS
          have h1 : y.c ≠ 1 := by omega
          exact hA _ _ (hxy (by unfold clash; simp [hx, h1])) hyS
  -- the state behind it
  have hpreS : tmS N (fun i => (listed.setIfInBounds t.i true).getD i false) pre tm0 = tmS N (fun i => listed.getD i false) pre tm0 := funext fun x => tmS_same rfl fun b hb _ => hsame b (.inl hb)
  have hpreH : hS (fun i => (listed.setIfInBounds t.i true).getD i false) pre h0 = hS (fun i => listed.getD i false) pre h0 := hS_same fun b hb _ => hsame b (.inl hb)
  have hSt : (listed.setIfInBounds t.i true).getD t.i false = true := by rw [hS']; simp
  have hstm : tmS N (fun i => (listed.setIfInBounds t.i true).getD i false) tr tm0 = putT N (tmS N (fun i => listed.getD i false) tr tm0) t.o.dst t.r := by
    funext x
    rw [htr, tmS_app, tmS_app, hpreS]
    simp only [tmS, hSt, hSi, if_true, Bool.false_eq_true, if_false]
    by_cases hdx : t.o.dst = some x
    · have hskip : ∀ b ∈ post, b.o.dst = some x → listed.getD b.i false = false := fun b hb hbd => hpost b hb (by unfold clash; rw [hdx, hbd]; simp)
      rw [tmS_skip (fun b hb hbS hbd => by rw [hsame b (.inr hb), hskip b hb hbd] at hbS; cases hbS)]
      have e := tmS_skip (N := N) (S := fun i => listed.getD i false) (x := x) (l := post) (f := tmS N (fun i => listed.getD i false) pre tm0) (fun b hb hbS hbd => by rw [hskip b hb hbd] at hbS; cases hbS)
      exact putT_congr (fun _ => e.symm) (.inl e.symm)
    · rw [putT_ne hdx]
      exact tmS_same (putT_ne hdx) fun b hb _ => hsame b (.inr hb)
  have hshp : hS (fun i => (listed.setIfInBounds t.i true).getD i false) tr h0 = if 2 ≤ t.c then t.h' else hS (fun i => listed.getD i false) tr h0 := by
    rw [htr, hS_app, hS_app, hpreH]
    simp only [hS, hSt, hSi, Bool.true_and, Bool.false_and, Bool.false_eq_true, if_false, decide_eq_true_eq]
    by_cases hc2 : 2 ≤ t.c
    · rw [if_pos hc2, if_pos hc2]
      refine hS_skip fun b hb hbc => ?_
      rw [hsame b (.inr hb)]
      have h1 : b.c ≠ 1 := by omega
      exact hpost b hb (by unfold clash; simp [hc2, h1])
    · rw [if_neg hc2, if_neg hc2]
      exact hS_same fun b hb _ => hsame b (.inr hb)
  have next : ∀ c' a', Ev c c' → St c' → SR N base c' (AS.put N ⟨tmS N (fun i => listed.getD i false) tr tm0, if 2 ≤ t.c then t.h' else hS (fun i => listed.getD i false) tr h0⟩ t.o.dst t.r) a' →
      KK a' c'.w := by
    intro c' a' hev hst' hr'
    rw [put_eq, ← hstm, ← hshp] at hr'
    exact hnext c' a' hev hst' hr'
  unfold wpOpIn
  simp only [ho]
  rcases hstep.turn hk hreads hh N with ⟨hw, hru, hhe⟩ | ⟨hw, hop⟩
  · rw [awanted_sound hr hw]
    simp only [Bool.false_eq_true, if_false]
    refine ⟨fun f _ => hF.fn f, ?_⟩
    have hr' := hr.put hst (Ev.refl c) t.o.dst (.v undef)
    rw [hr.h] at hr'
    refine next c _ (Ev.refl c) hst ?_
    rw [hhe, hru]
    exact hr'
  · rw [awanted_sound hr hw]
    simp only [if_true]
    refine opW_sound (hop (fun s' => s' = AS.put N ⟨tmS N (fun i => listed.getD i false) tr tm0, if 2 ≤ t.c then t.h' else hS (fun i => listed.getD i false) tr h0⟩ t.o.dst t.r) (fun _ _ => False) rfl) hF hst hr ?_ ?_
    · intro s' c' a' hs hev hst' hr'
      subst hs
      exact next c' a' hev hst' hr'
    · intro r s' c' x hf
      exact hf.elim


/-- what comes before what, if x comes before y -/
def AncX (ops : Array Oper) (x y i j : Nat) : Prop := Anc ops i j ∨ ((i = x ∨ Anc ops i x) ∧ (j = y ∨ Anc ops y j))
theorem AncX.good {ops : Array Oper} {x y : Nat} {S : Nat → Bool} (hd : Down ops S) (hxy : S y = true → S x = true) {i j : Nat} (h : AncX ops x y i j) (hj : S j = true) : S i = true := by
  rcases h with h | ⟨h1, h2⟩
  · exact hd.anc h hj
  · have hy : S y = true := by
      rcases h2 with rfl | h2
      · exact hj
      · exact hd.anc h2 hj
    rcases h1 with rfl | h1
    · exact hxy hy
    · exact hd.anc h1 (hxy hy)

def beforeX (ms : List Nat) (x y i j : Nat) : Bool := (ms.getD j 0).testBit i || ((i == x || (ms.getD x 0).testBit i) && (j == y || (ms.getD j 0).testBit y))
def pairsX (ops : Array Oper) (ms : List Nat) (x y : Nat) : List (Nat × Nat) → Bool
  | [] => true
  | (i, ci) :: l => (l.all fun p => match ops[i]?, ops[p.1]? with
      | some a, some b => !clash ops a b ci p.2 || beforeX ms x y i p.1
      | _, _ => false) && pairsX ops ms x y l
theorem pairsX_spec {ops : Array Oper} {ms : List Nat} {x y : Nat} (hm : ∀ (k i : Nat), (ms.getD k 0).testBit i = true → Anc ops i k) : ∀ (tr : List Tr), pairsX ops ms x y (tr.map fun t => (t.i, t.c)) = true → (∀ t ∈ tr, ops[t.i]? = some t.o) →
    tr.Pairwise (fun a b => clash ops a.o b.o a.c b.c = true → AncX ops x y a.i b.i)
  | [], _, _ => .nil
  | t :: l, h, ho => by
    simp only [List.map_cons, pairsX, Bool.and_eq_true, List.all_eq_true] at h
    refine List.pairwise_cons.2 ⟨fun b hb hc => ?_, pairsX_spec hm l h.2 fun t ht => ho t (by simp [ht])⟩
    have := h.1 (b.i, b.c) (List.mem_map.2 ⟨b, hb, rfl⟩)
    simp only [ho t (by simp), ho b (by simp [hb]), hc, Bool.not_true, Bool.false_or, beforeX, Bool.or_eq_true, Bool.and_eq_true, beq_iff_eq] at this
    rcases this with h1 | ⟨h1, h2⟩
    · exact .inl (hm _ _ h1)
    · exact .inr ⟨h1.imp id (hm _ _), h2.imp id (hm _ _)⟩

/-- an order is fit, if x comes before y -/
def okX (ops : Array Oper) (x y : Nat) (π : List (Nat × Nat)) : Bool :=
  π.length == ops.size && pairsX ops (masks ops.toList []) x y π && topo ops [] π && noDup (π.map (·.1)) && ((List.range ops.size).all fun i => (π.map (·.1)).contains i) &&
  π.all fun p => match ops[p.1]? with | some o => kindOk o p.2 | none => false

structure FitX (ops : Array Oper) (x y : Nat) (tr : List Tr) : Prop where
  len : tr.length = ops.size
  pairs : tr.Pairwise (fun a b => clash ops a.o b.o a.c b.c = true → AncX ops x y a.i b.i)
  topo : topo ops [] (tr.map fun t => (t.i, t.c)) = true
  nodup : (tr.map (·.i)).Nodup
  all : ∀ i, i < ops.size → ∃ t ∈ tr, t.i = i
  kind : ∀ t ∈ tr, kindOk t.o t.c = true
theorem okX_spec {P : Program} {N : Nat} {ops : Array Oper} {x y : Nat} {tr : List Tr} {tm : Nat → AV} {h : AH} (hruns : Runs P N ops tr tm h) (hok : okX ops x y (tr.map fun t => (t.i, t.c)) = true) : FitX ops x y tr := by
  simp only [okX, Bool.and_eq_true] at hok
  obtain ⟨⟨⟨⟨⟨hp0, hp1⟩, hp2⟩, hp3⟩, hp4⟩, hp5⟩ := hok
  have hops := runs_ops hruns
  refine ⟨by have := beq_iff_eq.1 hp0; simpa using this, pairsX_spec (masks_spec ops.toList [] (fun j o h => by simpa using h) (fun k i h => by simp at h)) tr hp1 hops, hp2, ?_, ?_, ?_⟩
  · have := noDup_spec hp3
    rw [List.map_map] at this
    exact this
  · intro i hi
    have := List.all_eq_true.1 hp4 i (List.mem_range.2 hi)
    have : i ∈ (tr.map fun t => (t.i, t.c)).map (·.1) := by simpa using this
    rw [List.map_map] at this
    obtain ⟨t, ht, rfl⟩ := List.mem_map.1 this
    exact ⟨t, ht, rfl⟩
  · intro t ht
    have := List.all_eq_true.1 hp5 (t.i, t.c) (List.mem_map.2 ⟨t, ht, rfl⟩)
    simpa [hops t ht] using this

theorem down_next {ops : Array Oper} {listed : Array Bool} {i : Nat} (hsz : listed.size = ops.size) (hd : Down ops (fun j => listed.getD j false)) (hi : i ∈ Region.ready .any ops listed) : Down ops (fun j => (listed.setIfInBounds i true).getD j false) := by
  obtain ⟨h1, o, ho, hedge⟩ := mem_ready.1 hi
  have hlt : i < ops.size := (Array.getElem?_eq_some_iff.1 ho).1
  have hS' : ∀ j, (listed.setIfInBounds i true).getD j false = (decide (j = i) || listed.getD j false) := fun j => getD_set (by omega)
  intro j oj hoj hj e he hb
  dsimp only at hj ⊢
  rw [hS'] at hj ⊢
  by_cases hji : j = i
  · subst hji
    rw [ho] at hoj; cases hoj
    rw [hedge e he hb]; simp
  · have : listed.getD j false = true := by simpa [hji] using hj
    have h2 : listed.getD e.on false = true := hd j oj hoj this e he hb
    rw [h2]; simp
theorem count_next {ops : Array Oper} {listed : Array Bool} {i fuel : Nat} {tr : List Tr} (hsz : listed.size = ops.size) (hall : ∃ t ∈ tr, t.i = i) (hi : i ∈ Region.ready .any ops listed) (hc : tr.countP (fun t => !listed.getD t.i false) ≤ fuel + 1) :
    tr.countP (fun u => !(listed.setIfInBounds i true).getD u.i false) ≤ fuel := by
  obtain ⟨h1, o, ho, _⟩ := mem_ready.1 hi
  have hlt : i < ops.size := (Array.getElem?_eq_some_iff.1 ho).1
  have hS' : ∀ j, (listed.setIfInBounds i true).getD j false = (decide (j = i) || listed.getD j false) := fun j => getD_set (by omega)
  have hSi : listed.getD i false = false := by
    rw [Array.getD_eq_getD_getElem?, Array.getElem?_eq_getElem (by omega)] at h1 ⊢
    simpa using h1
  obtain ⟨t, ht, rfl⟩ := hall
  obtain ⟨pre, post, rfl⟩ := List.append_of_mem ht
  have le : ∀ l : List Tr, l.countP (fun u => !(listed.setIfInBounds t.i true).getD u.i false) ≤ l.countP (fun u => !listed.getD u.i false) := fun l =>
    List.countP_mono_left fun u _ hu => by rw [hS'] at hu; revert hu; cases listed.getD u.i false <;> simp
  have l1 := le pre
  have l2 := le post
  simp only [List.countP_append, List.countP_cons, hS' t.i, hSi, decide_true, Bool.true_or, Bool.not_true, Bool.not_false, Bool.false_eq_true, if_false, if_true] at hc ⊢
  omega
theorem any_done {N : Nat} {base : Bs × Fence} {Qx : Exit → Act → World → Prop} {tr : List Tr} {tm0 : Nat → AV} {h0 : AH} {listed : Array Bool} {c : Cx} {a : Act} (hst : St c)
    (hr : SR N base c ⟨tmS N (fun i => listed.getD i false) tr tm0, hS (fun i => listed.getD i false) tr h0⟩ a)
    (hQ : ∀ c' a', Ev c c' → St c' → SR N base c' ⟨tmS N (fun _ => true) tr tm0, hS (fun _ => true) tr h0⟩ a' → Qx .normal a' c'.w) (hl : ∀ t ∈ tr, listed.getD t.i false = true) : Qx .normal a c.w := by
  refine hQ c a (Ev.refl c) hst ?_
  have e1 : tmS N (fun i => listed.getD i false) tr tm0 = tmS N (fun _ => true) tr tm0 := funext fun x => tmS_same rfl fun t ht _ => hl t ht
  have e2 : hS (fun i => listed.getD i false) tr h0 = hS (fun _ => true) tr h0 := hS_same fun t ht _ => hl t ht
  rw [e1, e2] at hr
  exact hr
theorem any_zero {ops : Array Oper} {listed : Array Bool} {tr : List Tr} (hsz : listed.size = ops.size) (hall : ∀ i, i < ops.size → ∃ t ∈ tr, t.i = i) (hl : ∀ t ∈ tr, listed.getD t.i false = true) : Region.ready .any ops listed = [] := by
  cases hrd : Region.ready .any ops listed with
  | nil => rfl
  | cons i l =>
    have hi : i ∈ Region.ready .any ops listed := by rw [hrd]; simp
    obtain ⟨h1, o, ho, _⟩ := mem_ready.1 hi
    have hlt : i < ops.size := (Array.getElem?_eq_some_iff.1 ho).1
    obtain ⟨t, ht, rfl⟩ := hall i hlt
    have := hl t ht
    rw [Array.getD_eq_getD_getElem?, Array.getElem?_eq_getElem (by omega)] at this h1
    simp only [Option.getD_some] at this h1
    rw [this] at h1; cases h1

/-- x is there: the first order -/
theorem wpAny_after {P : Program} {N : Nat} {base : Bs × Fence} {ops : Array Oper} {F : Fence} {n : Nat} (hF : WF F) {Qx : Exit → Act → World → Prop} {x y : Nat} {tr : List Tr} {tm0 : Nat → AV} {h0 : AH} (hruns : Runs P N ops tr tm0 h0) (hfit : FitX ops x y tr) :
    ∀ (fuel : Nat) (listed : Array Bool) (c : Cx) (a : Act), listed.size = ops.size → Down ops (fun i => listed.getD i false) → listed.getD x false = true → St c → SR N base c ⟨tmS N (fun i => listed.getD i false) tr tm0, hS (fun i => listed.getD i false) tr h0⟩ a →
      tr.countP (fun t => !listed.getD t.i false) ≤ fuel →
      (∀ c' a', Ev c c' → St c' → SR N base c' ⟨tmS N (fun _ => true) tr tm0, hS (fun _ => true) tr h0⟩ a' → Qx .normal a' c'.w) → wpAnyIn F n P .any ops Qx fuel listed a c.w := by
  intro fuel
  induction fuel with
  | zero =>
    intro listed c a hsz hd hx hst hr hc hQ
    have hl : ∀ t ∈ tr, listed.getD t.i false = true := fun t ht => by
      have := List.countP_eq_zero.1 (Nat.le_zero.1 hc) t ht
      simpa using this
    exact ⟨any_zero hsz hfit.all hl, any_done hst hr hQ hl⟩
  | succ fuel ih =>
    intro listed c a hsz hd hx hst hr hc hQ
    refine ⟨fun h => any_done hst hr hQ fun t ht => topo_all hsz h _ [] hfit.topo (fun i hi => by cases hi) (t.i, t.c) (List.mem_map.2 ⟨t, ht, rfl⟩), fun i hi => ?_⟩
    have hi' := hi
    obtain ⟨h1, o, ho, _⟩ := mem_ready.1 hi'
    have hlt : i < ops.size := (Array.getElem?_eq_some_iff.1 ho).1
    obtain ⟨t, ht, hti⟩ := hfit.all i hlt
    have hd' := down_next hsz hd hi
    have hx' : (listed.setIfInBounds i true).getD x false = true := by rw [getD_set (by omega), hx]; simp
    exact any_step hF hruns hfit.pairs hfit.nodup hfit.kind hi ht hti hsz (fun i j h hj => AncX.good hd (fun _ => hx) h hj) (fun i j h hj => AncX.good hd' (fun _ => hx') h hj) hst hr fun c' a' hev hst' hr' =>
      ih _ c' a' (by simpa using hsz) hd' hx' hst' hr' (count_next hsz ⟨t, ht, hti⟩ hi hc) fun c2 a2 e2 s2 r2 => hQ c2 a2 (Ev.trans hst hev e2) s2 r2

/-- neither is there -/
theorem wpAny_two {P : Program} {N : Nat} {base : Bs × Fence} {ops : Array Oper} {F : Fence} {n : Nat} (hF : WF F) {Qx : Exit → Act → World → Prop} {x y : Nat} (hxy : x ≠ y) {ρ t1 t2 : List Tr} {tm0 : Nat → AV} {h0 : AH} (hr1 : Runs P N ops (ρ ++ t1) tm0 h0) (hr2 : Runs P N ops (ρ ++ t2) tm0 h0)
    (hf1 : FitX ops x y (ρ ++ t1)) (hf2 : FitX ops y x (ρ ++ t2)) (hn1 : ∀ t ∈ t1, ∀ S : Nat → Bool, Down ops S → S x = false → S y = false → S t.i = false) (hn2 : ∀ t ∈ t2, ∀ S : Nat → Bool, Down ops S → S x = false → S y = false → S t.i = false) :
    ∀ (fuel : Nat) (listed : Array Bool) (c : Cx) (a : Act), listed.size = ops.size → Down ops (fun i => listed.getD i false) → listed.getD x false = false → listed.getD y false = false → St c →
      SR N base c ⟨tmS N (fun i => listed.getD i false) (ρ ++ t1) tm0, hS (fun i => listed.getD i false) (ρ ++ t1) h0⟩ a → (ρ ++ t1).countP (fun t => !listed.getD t.i false) ≤ fuel → (ρ ++ t2).countP (fun t => !listed.getD t.i false) ≤ fuel →
      (∀ c' a', Ev c c' → St c' → SR N base c' ⟨tmS N (fun _ => true) (ρ ++ t1) tm0, hS (fun _ => true) (ρ ++ t1) h0⟩ a' → Qx .normal a' c'.w) →
      (∀ c' a', Ev c c' → St c' → SR N base c' ⟨tmS N (fun _ => true) (ρ ++ t2) tm0, hS (fun _ => true) (ρ ++ t2) h0⟩ a' → Qx .normal a' c'.w) → wpAnyIn F n P .any ops Qx fuel listed a c.w := by
  intro fuel
  induction fuel with
  | zero =>
    intro listed c a hsz hd hx hy hst hr hc hc2 hQ hQ2
    have hl : ∀ t ∈ ρ ++ t1, listed.getD t.i false = true := fun t ht => by
      have := List.countP_eq_zero.1 (Nat.le_zero.1 hc) t ht
      simpa using this
    exact ⟨any_zero hsz hf1.all hl, any_done hst hr hQ hl⟩
  | succ fuel ih =>
    intro listed c a hsz hd hx hy hst hr hc hc2 hQ hQ2
    refine ⟨fun h => any_done hst hr hQ fun t ht => topo_all hsz h _ [] hf1.topo (fun i hi => by cases hi) (t.i, t.c) (List.mem_map.2 ⟨t, ht, rfl⟩), fun i hi => ?_⟩
    have hi' := hi
    obtain ⟨h1, o, ho, _⟩ := mem_ready.1 hi'
    have hlt : i < ops.size := (Array.getElem?_eq_some_iff.1 ho).1
    have hd' := down_next hsz hd hi
    have hset : ∀ j, (listed.setIfInBounds i true).getD j false = (decide (j = i) || listed.getD j false) := fun j => getD_set (by omega)
    by_cases hiy : i = y
    · -- the second order
      subst hiy
      obtain ⟨t, ht, hti⟩ := hf2.all i hlt
      have skip1 : tmS N (fun i => listed.getD i false) (ρ ++ t1) tm0 = tmS N (fun i => listed.getD i false) (ρ ++ t2) tm0 := by
        funext z
        have k1 : ∀ t ∈ t1, listed.getD t.i false = true → t.o.dst ≠ some z := fun t ht hs _ => by
          have := hn1 t ht _ hd hx hy
          rw [hs] at this; cases this
        have k2 : ∀ t ∈ t2, listed.getD t.i false = true → t.o.dst ≠ some z := fun t ht hs _ => by
          have := hn2 t ht _ hd hx hy
          rw [hs] at this; cases this
        rw [tmS_app, tmS_app, tmS_skip (S := fun i => listed.getD i false) k1, tmS_skip (S := fun i => listed.getD i false) k2]
      have skip2 : hS (fun i => listed.getD i false) (ρ ++ t1) h0 = hS (fun i => listed.getD i false) (ρ ++ t2) h0 := by
        rw [hS_app, hS_app, hS_skip (S := fun i => listed.getD i false) fun t ht _ => hn1 t ht _ hd hx hy, hS_skip (S := fun i => listed.getD i false) fun t ht _ => hn2 t ht _ hd hx hy]
      rw [skip1, skip2] at hr
      have hy' : (listed.setIfInBounds i true).getD i false = true := by rw [hset]; simp
      exact any_step hF hr2 hf2.pairs hf2.nodup hf2.kind hi ht hti hsz (fun j k h hk => AncX.good hd (fun hxx => by rw [hx] at hxx; cases hxx) h hk) (fun j k h hk => AncX.good hd' (fun _ => hy') h hk) hst hr fun c' a' hev hst' hr' =>
        wpAny_after hF hr2 hf2 fuel _ c' a' (by simpa using hsz) hd' hy' hst' hr' (count_next hsz ⟨t, ht, hti⟩ hi hc2) fun c2 a2 e2 s2 r2 => hQ2 c2 a2 (Ev.trans hst hev e2) s2 r2
    · obtain ⟨t, ht, hti⟩ := hf1.all i hlt
      have hy' : (listed.setIfInBounds i true).getD y false = false := by rw [hset, hy]; simp; exact fun h => hiy h.symm
      refine any_step hF hr1 hf1.pairs hf1.nodup hf1.kind hi ht hti hsz (fun j k h hk => AncX.good hd (fun hyy => by rw [hy] at hyy; cases hyy) h hk) (fun j k h hk => AncX.good hd' (fun hyy => by have hyy2 : (listed.setIfInBounds i true).getD y false = true := hyy; rw [hy'] at hyy2; cases hyy2) h hk) hst hr fun c' a' hev hst' hr' => ?_
      by_cases hix : i = x
      · subst hix
        have hx' : (listed.setIfInBounds i true).getD i false = true := by rw [hset]; simp
        exact wpAny_after hF hr1 hf1 fuel _ c' a' (by simpa using hsz) hd' hx' hst' hr' (count_next hsz ⟨t, ht, hti⟩ hi hc) fun c2 a2 e2 s2 r2 => hQ c2 a2 (Ev.trans hst hev e2) s2 r2
      · have hx' : (listed.setIfInBounds i true).getD x false = false := by rw [hset, hx]; simp; exact fun h => hix h.symm
        exact ih _ c' a' (by simpa using hsz) hd' hx' hy' hst' hr' (count_next hsz ⟨t, ht, hti⟩ hi hc) (count_next hsz (hf2.all i hlt) hi hc2) (fun c2 a2 e2 s2 r2 => hQ c2 a2 (Ev.trans hst hev e2) s2 r2) fun c2 a2 e2 s2 r2 => hQ2 c2 a2 (Ev.trans hst hev e2) s2 r2

theorem Runs.append {P : Program} {N : Nat} {ops : Array Oper} : ∀ {l m : List Tr} {tm : Nat → AV} {h : AH}, Runs P N ops l tm h → Runs P N ops m (tmS N (fun _ => true) l tm) (hS (fun _ => true) l h) → Runs P N ops (l ++ m) tm h
  | [], m, tm, h, _, H => H
  | t :: l, m, tm, h, H, H2 => by
    cases H with
    | cons t l tm h ho hk hs hl =>
      refine .cons t (l ++ m) tm h ho hk hs (Runs.append hl ?_)
      simpa only [tmS, hS, if_true, Bool.true_and, decide_eq_true_eq] using H2

/-- what comes behind one of the two -/
def behind (ops : Array Oper) (x y i : Nat) : Bool := i == x || i == y || ((masks ops.toList []).getD i 0).testBit x || ((masks ops.toList []).getD i 0).testBit y
def kindsOk (ops : Array Oper) (π : List (Nat × Nat)) : Bool := π.all fun p => match ops[p.1]? with | some o => kindOk o p.2 | none => false

theorem codeW_region_two {P : Program} {N : Nat} {Q : AExit → AS → Prop} {s : AS} {id : Nat} {ops : Array Oper} (x y : Nat) (ρ σ1 σ2 : List (Nat × Nat)) (hm : P.follows .mixedOrders = true) (hxy : (x == y) = false)
    (hok1 : okX ops x y (ρ ++ σ1) = true) (hok2 : okX ops y x (ρ ++ σ2) = true) (hb : ((σ1 ++ σ2).all fun p => behind ops x y p.1) = true) (hk : kindsOk ops ρ = true) (hk1 : kindsOk ops σ1 = true) (hk2 : kindsOk ops σ2 = true)
    (H : ∀ (K : AS → Prop), (∀ s, Q .normal s → K s) → AnyW P N ops ρ (fun s => AnyW P N ops σ1 K s ∧ AnyW P N ops σ2 K s) s) : CodeW P N (.region id ops true) Q s := by
  intro F n base c a hF hst hr R hR
  refine wpIn_region_any hm ?_
  obtain ⟨tm, hp⟩ := s
  obtain ⟨ρ', rfl, hρ, hK1, hK2⟩ := anyW_runs (H _ (fun s h => h)) hk
  obtain ⟨t1, rfl, hr1, hQ1⟩ := anyW_runs hK1 hk1
  obtain ⟨t2, rfl, hr2, hQ2⟩ := anyW_runs hK2 hk2
  have hruns1 := hρ.append hr1
  have hruns2 := hρ.append hr2
  rw [← List.map_append] at hok1 hok2
  have hf1 := okX_spec hruns1 hok1
  have hf2 := okX_spec hruns2 hok2
  have hm' : ∀ (k i : Nat), ((masks ops.toList []).getD k 0).testBit i = true → Anc ops i k := masks_spec ops.toList [] (fun j o h => by simpa using h) (fun k i h => by simp at h)
  have hbeh : ∀ i, behind ops x y i = true → ∀ S : Nat → Bool, Down ops S → S x = false → S y = false → S i = false := by
    intro i hi S hd hx hy
    cases hS : S i with
    | false => rfl
    | true =>
      exfalso
      simp only [behind, Bool.or_eq_true, beq_iff_eq] at hi
      rcases hi with ((rfl | rfl) | h) | h
      · rw [hx] at hS; cases hS
      · rw [hy] at hS; cases hS
      · have := hd.anc (hm' _ _ h) hS; rw [hx] at this; cases this
      · have := hd.anc (hm' _ _ h) hS; rw [hy] at this; cases this
  rw [List.all_eq_true] at hb
  have hn1 : ∀ t ∈ t1, ∀ S : Nat → Bool, Down ops S → S x = false → S y = false → S t.i = false := fun t ht => hbeh _ (hb (t.i, t.c) (List.mem_append_left _ (List.mem_map.2 ⟨t, ht, rfl⟩)))
  have hn2 : ∀ t ∈ t2, ∀ S : Nat → Bool, Down ops S → S x = false → S y = false → S t.i = false := fun t ht => hbeh _ (hb (t.i, t.c) (List.mem_append_right _ (List.mem_map.2 ⟨t, ht, rfl⟩)))
  have hev : Ev c (c.to { c.w with drawn := c.w.drawn + 1 }) := Ev.idle hst (Ev.refl c) rfl rfl rfl rfl fun k => .inl rfl
  have hst' : St (c.to { c.w with drawn := c.w.drawn + 1 }) := hst.idle rfl fun k o hk => .inl hk
  have hr' : SR N (base, F) (c.to { c.w with drawn := c.w.drawn + 1 }) ⟨tm, hp⟩ a := ⟨hr.h, hr.size, Nat.le_trans hr.above hev.size, hr.defers.ev hev, RoundOk.ev hev hr.round, fun t => (hr.tm t).ev hst hev⟩
  have hnone : ∀ j, (Array.replicate ops.size false).getD j false = false := fun j => by
    rw [Array.getD_eq_getD_getElem?, Array.getElem?_replicate]
    split <;> rfl
  refine wpAny_two (base := (base, F)) hF (by simpa using hxy) hruns1 hruns2 hf1 hf2 hn1 hn2 _ _ (c.to { c.w with drawn := c.w.drawn + 1 }) a (by simp) ?_ (hnone _) (hnone _) hst' ?_ ?_ ?_ ?_ ?_
  · intro j o ho hj
    simp only at hj
    rw [hnone] at hj; cases hj
  · have e1 : tmS N (fun i => (Array.replicate ops.size false).getD i false) (ρ' ++ t1) tm = tm := funext fun x => tmS_skip fun t _ h => by rw [hnone] at h; cases h
    have e2 : hS (fun i => (Array.replicate ops.size false).getD i false) (ρ' ++ t1) hp = hp := hS_skip fun t _ _ => hnone _
    rw [e1, e2]; exact hr'
  · exact Nat.le_trans List.countP_le_length (Nat.le_of_eq hf1.len)
  · exact Nat.le_trans List.countP_le_length (Nat.le_of_eq hf2.len)
  · intro c' a' h1 h2 h3
    rw [tmS_app, hS_app] at h3
    exact hR _ _ c' a' _ hQ1 (Ev.trans hst hev h1) h2 h3 rfl
  · intro c' a' h1 h2 h3
    rw [tmS_app, hS_app] at h3
    exact hR _ _ c' a' _ hQ2 (Ev.trans hst hev h1) h2 h3 rfl

theorem codeW_seq_two {P : Program} {N : Nat} {Q : AExit → AS → Prop} {s : AS} {id : Nat} {ops : Array Oper} {z : Code} (x y : Nat) (ρ σ1 σ2 : List (Nat × Nat)) (hm : P.follows .mixedOrders = true) (hxy : (x == y) = false)
    (hok1 : okX ops x y (ρ ++ σ1) = true) (hok2 : okX ops y x (ρ ++ σ2) = true) (hb : ((σ1 ++ σ2).all fun p => behind ops x y p.1) = true) (hk : kindsOk ops ρ = true) (hk1 : kindsOk ops σ1 = true) (hk2 : kindsOk ops σ2 = true)
    (H : ∀ (K : AS → Prop), (∀ s, CodeW P N z Q s → K s) → AnyW P N ops ρ (fun s => AnyW P N ops σ1 K s ∧ AnyW P N ops σ2 K s) s) : CodeW P N (.seq (.region id ops true) z) Q s :=
  codeW_seq (codeW_region_two x y ρ σ1 σ2 hm hxy hok1 hok2 hb hk hk1 hk2 fun K hK => H K hK)
end Go.Proofs.YthkiabcdkhpheaaDoor.Ab

/-
  The abstract program logic: a region whose operations on the heap come in any order among themselves: each of these orders is walked, the others of the page once.
-/
set_option linter.unusedVariables false
namespace Go.Proofs.YthkiabcdkhpheaaDoor.Ab

/-- what may come next, and what then -/
inductive Alt where
  | done
  | stop
  | alt (i c : Nat) (sub more : Alt)

def AltW (P : Program) (N : Nat) (ops : Array Oper) : Alt → (AS → Prop) → AS → Prop
  | .done, K, s => K s
  | .stop, _, _ => True
  | .alt i c sub more, K, s => AnyW P N ops [(i, c)] (AltW P N ops sub K) s ∧ AltW P N ops more K s

def freeH (ops : Array Oper) (rem : List Nat) : List Nat := rem.filter fun i => match ops[i]? with
  | some o => o.after.toList.all fun e => !Region.binds .any e || !rem.contains e.on
  | none => false
def altOk (ops : Array Oper) : Alt → List Nat → List Nat → Bool
  | .done, rem, _ => rem.isEmpty
  | .stop, rem, need => !rem.isEmpty && need.isEmpty
  | .alt i c sub more, rem, need => rem.contains i && c == 2 && (match ops[i]? with | some o => kindOk o 2 | none => false) && altOk ops sub (rem.erase i) (freeH ops (rem.erase i)) && altOk ops more rem (need.erase i)

theorem alt_find {P : Program} {N : Nat} {ops : Array Oper} {K : AS → Prop} {s : AS} {i : Nat} : ∀ {t : Alt} {rem need : List Nat}, altOk ops t rem need = true → AltW P N ops t K s → rem ≠ [] → i ∈ need →
    ∃ sub, AnyW P N ops [(i, 2)] (AltW P N ops sub K) s ∧ altOk ops sub (rem.erase i) (freeH ops (rem.erase i)) = true ∧ ∃ o, ops[i]? = some o ∧ kindOk o 2 = true
  | .done, rem, need, h, _, hr, _ => by
    simp only [altOk, List.isEmpty_iff] at h
    exact absurd h hr
  | .stop, rem, need, h, _, _, hi => by
    simp only [altOk, Bool.and_eq_true, List.isEmpty_iff] at h
    rw [h.2] at hi; cases hi
  | .alt j c sub more, rem, need, h, hw, hr, hi => by
    simp only [altOk, Bool.and_eq_true, beq_iff_eq] at h
    obtain ⟨⟨⟨⟨h1, rfl⟩, h2⟩, h3⟩, h4⟩ := h
    obtain ⟨w1, w2⟩ := hw
    by_cases hij : i = j
    · subst hij
      refine ⟨sub, w1, h3, ?_⟩
      cases ho : ops[i]? with
      | none => simp [ho] at h2
      | some o => exact ⟨o, rfl, by simpa [ho] using h2⟩
    · exact alt_find h4 w2 hr ((List.mem_erase_of_ne hij).2 hi)

theorem wpAny_alt {P : Program} {N : Nat} {base : Bs × Fence} {ops : Array Oper} {F : Fence} {n : Nat} (hF : WF F) {Qx : Exit → Act → World → Prop} {K : AS → Prop} {ρ : List Tr} {tm0 : Nat → AV} {h0 : AH} {π : List (Nat × Nat)} {heap : List Nat}
    (hpw : ρ.Pairwise (fun a b => clash ops a.o b.o a.c b.c = true → Anc ops a.i b.i)) (hcross : ∀ a ∈ ρ, ∀ i ∈ heap, ∀ o, ops[i]? = some o → clash ops a.o o a.c 2 = true → Anc ops a.i i)
    (htopo : topo ops [] π = true) (hπ : ∀ i, i < ops.size → ∃ c, (i, c) ∈ π) (hall : ∀ i, i < ops.size → i ∈ heap ∨ ∃ t ∈ ρ, t.i = i) :
    ∀ (fuel : Nat) (listed : Array Bool) (c : Cx) (a : Act) (p : List Tr) (rem : List Nat) (t : Alt), listed.size = ops.size → Down ops (fun i => listed.getD i false) → Runs P N ops (ρ ++ p) tm0 h0 → (∀ x ∈ p, listed.getD x.i false = true ∧ x.c = 2 ∧ x.i ∈ heap) →
      (∀ i, i < ops.size → listed.getD i false = false → i ∈ rem ∨ ∃ t ∈ ρ, t.i = i) → (∀ i ∈ rem, listed.getD i false = false ∧ i ∈ heap ∧ i < ops.size) → ((ρ ++ p).map (·.i)).Nodup → (∀ i ∈ rem, i ∉ (ρ ++ p).map (·.i)) → rem.Nodup → (∀ t ∈ ρ ++ p, kindOk t.o t.c = true) →
      altOk ops t rem (freeH ops rem) = true → AltW P N ops t K ⟨tmS N (fun _ => true) (ρ ++ p) tm0, hS (fun _ => true) (ρ ++ p) h0⟩ → St c →
      SR N base c ⟨tmS N (fun i => listed.getD i false) (ρ ++ p) tm0, hS (fun i => listed.getD i false) (ρ ++ p) h0⟩ a → rem.length + ρ.countP (fun t => !listed.getD t.i false) ≤ fuel →
      (∀ s c' a', K s → Ev c c' → St c' → SR N base c' s a' → Qx .normal a' c'.w) → wpAnyIn F n P .any ops Qx fuel listed a c.w := by
  -- the end
  have done : ∀ (listed : Array Bool) (c : Cx) (a : Act) (p : List Tr) (rem : List Nat) (t : Alt), (∀ x ∈ ρ ++ p, listed.getD x.i false = true) → rem = [] → altOk ops t rem (freeH ops rem) = true → AltW P N ops t K ⟨tmS N (fun _ => true) (ρ ++ p) tm0, hS (fun _ => true) (ρ ++ p) h0⟩ → St c →
      SR N base c ⟨tmS N (fun i => listed.getD i false) (ρ ++ p) tm0, hS (fun i => listed.getD i false) (ρ ++ p) h0⟩ a → (∀ s c' a', K s → Ev c c' → St c' → SR N base c' s a' → Qx .normal a' c'.w) → Qx .normal a c.w := by
    intro listed c a p rem t hl hrem hok hw hst hr hQ
    subst hrem
    have hK : K ⟨tmS N (fun _ => true) (ρ ++ p) tm0, hS (fun _ => true) (ρ ++ p) h0⟩ := by
      cases t with
      | done => exact hw
      | stop => simp [altOk] at hok
      | alt i c sub more => simp [altOk] at hok
    have e1 : tmS N (fun i => listed.getD i false) (ρ ++ p) tm0 = tmS N (fun _ => true) (ρ ++ p) tm0 := funext fun x => tmS_same rfl fun t ht _ => hl t ht
    have e2 : hS (fun i => listed.getD i false) (ρ ++ p) h0 = hS (fun _ => true) (ρ ++ p) h0 := hS_same fun t ht _ => hl t ht
    rw [e1, e2] at hr
    exact hQ _ c a hK (Ev.refl c) hst hr
  have ready0 : ∀ (listed : Array Bool), listed.size = ops.size → Region.ready .any ops listed = [] → ∀ i, i < ops.size → listed.getD i false = true := fun listed hsz h i hi => by
    obtain ⟨c, hc⟩ := hπ i hi
    exact topo_all hsz h _ [] htopo (fun i hi => by cases hi) (i, c) hc
  have inb : ∀ {tr : List Tr} {tm : Nat → AV} {h : AH}, Runs P N ops tr tm h → ∀ x ∈ tr, x.i < ops.size := fun hr x hx => (Array.getElem?_eq_some_iff.1 (runs_ops hr x hx)).1
  intro fuel
  induction fuel with
  | zero =>
    intro listed c a p rem t hsz hd hruns hp hcov hrem hnd hdis hrn hk hok hw hst hr hc hQ
    have hrem0 : rem = [] := List.eq_nil_of_length_eq_zero (by omega)
    have hρl : ∀ x ∈ ρ, listed.getD x.i false = true := fun x hx => by
      have := List.countP_eq_zero.1 (show ρ.countP (fun t => !listed.getD t.i false) = 0 by omega) x hx
      simpa using this
    have hl : ∀ x ∈ ρ ++ p, listed.getD x.i false = true := fun x hx => (List.mem_append.1 hx).elim (hρl x) fun h => (hp x h).1
    refine ⟨?_, done listed c a p rem t hl hrem0 hok hw hst hr hQ⟩
    cases hrd : Region.ready .any ops listed with
    | nil => rfl
    | cons i l =>
      have hi : i ∈ Region.ready .any ops listed := by rw [hrd]; simp
      obtain ⟨h1, o, ho, _⟩ := mem_ready.1 hi
      have hlt : i < ops.size := (Array.getElem?_eq_some_iff.1 ho).1
      have hSi : listed.getD i false = false := by
        rw [Array.getD_eq_getD_getElem?, Array.getElem?_eq_getElem (by omega)] at h1 ⊢
        simpa using h1
      rcases hcov i hlt hSi with h | ⟨x, hx, rfl⟩
      · rw [hrem0] at h; cases h
      · rw [hρl x hx] at hSi; cases hSi
  | succ fuel ih =>
    intro listed c a p rem t hsz hd hruns hp hcov hrem hnd hdis hrn hk hok hw hst hr hc hQ
    refine ⟨fun h => ?_, fun i hi => ?_⟩
    · have hl := ready0 listed hsz h
      have hrem0 : rem = [] := by
        cases rem with
        | nil => rfl
        | cons i l =>
          have := hrem i (by simp)
          rw [hl i this.2.2] at this
          cases this.1
      exact done listed c a p rem t (fun x hx => hl _ (inb hruns x hx)) hrem0 hok hw hst hr hQ
    · have hi' := hi
      obtain ⟨h1, o, ho, hedge⟩ := mem_ready.1 hi'
      have hlt : i < ops.size := (Array.getElem?_eq_some_iff.1 ho).1
      have hSi : listed.getD i false = false := by
        rw [Array.getD_eq_getD_getElem?, Array.getElem?_eq_getElem (by omega)] at h1 ⊢
        simpa using h1
      have hd' := down_next hsz hd hi
      have hset : ∀ j, (listed.setIfInBounds i true).getD j false = (decide (j = i) || listed.getD j false) := fun j => getD_set (by omega)
      have hmono : ∀ j, listed.getD j false = true → (listed.setIfInBounds i true).getD j false = true := fun j hj => by rw [hset, hj]; simp
      have hA : ∀ j k, (Anc ops j k ∨ listed.getD j false = true) → listed.getD k false = true → listed.getD j false = true := fun j k h hk => h.elim (fun h => hd.anc h hk) id
      have hA' : ∀ j k, (Anc ops j k ∨ listed.getD j false = true) → (listed.setIfInBounds i true).getD k false = true → (listed.setIfInBounds i true).getD j false = true := fun j k h hk => h.elim (fun h => hd'.anc h hk) (hmono j)
      have hcov' : ∀ j, j < ops.size → (listed.setIfInBounds i true).getD j false = false → j ≠ i ∧ listed.getD j false = false := fun j _ h => by
        rw [hset] at h
        simpa using h
      by_cases hir : i ∈ rem
      · -- one of the heap's
        have hfree : i ∈ freeH ops rem := by
          refine List.mem_filter.2 ⟨hir, ?_⟩
          simp only [ho, List.all_eq_true, Bool.or_eq_true, Bool.not_eq_true']
          intro e he
          cases hb : Region.binds .any e with
          | false => exact .inl rfl
          | true =>
            refine .inr ?_
            have hl := hedge e (Array.mem_def.2 he) hb
            cases hm : rem.contains e.on with
            | false => rfl
            | true => have := (hrem e.on (by simpa using hm)).1; rw [hl] at this; cases this
        obtain ⟨sub, hw2, hok2, o', ho', hk2⟩ := alt_find hok hw (fun h => by rw [h] at hir; cases hir) hfree
        rw [ho] at ho'; cases ho'
        obtain ⟨tr, htr, hrun2, hK2⟩ := anyW_runs hw2 (by simp [ho, hk2])
        obtain ⟨ti, rfl, hti⟩ : ∃ ti, tr = [ti] ∧ (ti.i, ti.c) = (i, 2) := by
          cases tr with
          | nil => simp at htr
          | cons x l =>
            cases l with
            | nil => exact ⟨x, rfl, by simpa using htr⟩
            | cons y l => simp at htr
        have hti1 : ti.i = i := congrArg Prod.fst hti
        have hti2 : ti.c = 2 := congrArg Prod.snd hti
        have hruns' : Runs P N ops (ρ ++ (p ++ [ti])) tm0 h0 := by rw [← List.append_assoc]; exact hruns.append hrun2
        have hto : ti.o = o := by
          have := runs_ops hrun2 ti (by simp)
          rw [hti1, ho] at this; cases this; rfl
        have hndi : i ∉ (ρ ++ p).map (·.i) := hdis i hir
        have hnd' : ((ρ ++ (p ++ [ti])).map (·.i)).Nodup := by
          rw [← List.append_assoc, List.map_append, List.nodup_append]
          refine ⟨hnd, by simp, fun x hx y hy => ?_⟩
          simp at hy
          subst hy
          rw [hti1]
          exact fun e => hndi (e ▸ hx)
        have hpw' : (ρ ++ (p ++ [ti])).Pairwise (fun a b => clash ops a.o b.o a.c b.c = true → (Anc ops a.i b.i ∨ listed.getD a.i false = true)) := by
          refine List.pairwise_append.2 ⟨hpw.imp fun h hc => .inl (h hc), ?_, ?_⟩
          · refine List.pairwise_append.2 ⟨?_, by simp, ?_⟩
            · exact List.pairwise_of_forall_mem_list fun x hx y hy _ => .inr (hp x hx).1
            · intro x hx y hy _
              exact .inr (hp x hx).1
          · intro x hx y hy hcl
            rcases List.mem_append.1 hy with hy | hy
            · obtain ⟨_, y2, y3⟩ := hp y hy
              rw [y2] at hcl
              exact .inl (hcross x hx y.i y3 y.o (runs_ops hruns y (List.mem_append_right _ hy)) hcl)
            · simp at hy; subst hy
              rw [hti2] at hcl
              refine .inl ?_
              rw [hti1]
              exact hcross x hx i (hrem i hir).2.1 y.o (by rw [hto]; exact ho) hcl
        have hk' : ∀ t ∈ ρ ++ (p ++ [ti]), kindOk t.o t.c = true := by
          intro x hx
          rw [← List.append_assoc] at hx
          rcases List.mem_append.1 hx with hx | hx
          · exact hk x hx
          · simp at hx; subst hx; rw [hto, hti2]; exact hk2
        have skip1 : tmS N (fun i => listed.getD i false) (ρ ++ p) tm0 = tmS N (fun i => listed.getD i false) (ρ ++ (p ++ [ti])) tm0 := by
          rw [← List.append_assoc, tmS_app N _ (ρ ++ p)]
          simp only [tmS, hti1, hSi, Bool.false_eq_true, if_false]
        have skip2 : hS (fun i => listed.getD i false) (ρ ++ p) h0 = hS (fun i => listed.getD i false) (ρ ++ (p ++ [ti])) h0 := by
          rw [← List.append_assoc, hS_app _ (ρ ++ p)]
          simp only [hS, hti1, hSi, Bool.false_and, Bool.false_eq_true, if_false]
        rw [skip1, skip2] at hr
        refine any_step hF hruns' hpw' hnd' hk' hi (t := ti) (by simp) hti1 hsz hA hA' hst hr fun c' a' hev hst' hr' => ?_
        refine ih _ c' a' (p ++ [ti]) (rem.erase i) sub (by simpa using hsz) hd' hruns' ?_ ?_ ?_ hnd' ?_ (hrn.erase i) hk' hok2 ?_ hst' hr' ?_ fun s c2 a2 hKs e2 s2 r2 => hQ s c2 a2 hKs (Ev.trans hst hev e2) s2 r2
        · intro x hx
          rcases List.mem_append.1 hx with hx | hx
          · exact ⟨hmono _ (hp x hx).1, (hp x hx).2⟩
          · simp at hx; subst hx
            exact ⟨by rw [hti1, hset]; simp, hti2, by rw [hti1]; exact (hrem i hir).2.1⟩
        · intro j hj hl
          obtain ⟨hne, hl2⟩ := hcov' j hj hl
          exact (hcov j hj hl2).imp (fun h => (List.mem_erase_of_ne hne).2 h) id
        · intro j hj
          obtain ⟨hne, hj2⟩ := (hrn.mem_erase_iff).1 hj
          exact ⟨by rw [hset, (hrem j hj2).1]; simpa using hne, (hrem j hj2).2⟩
        · intro j hj
          obtain ⟨hne, hj2⟩ := (hrn.mem_erase_iff).1 hj
          rw [← List.append_assoc, List.map_append, List.mem_append]
          rintro (h | h)
          · exact hdis j hj2 h
          · simp at h; rw [hti1] at h; exact hne h
        · rw [← List.append_assoc, tmS_app N _ (ρ ++ p), hS_app _ (ρ ++ p)]
          exact hK2
        · have l1 : (rem.erase i).length = rem.length - 1 := List.length_erase_of_mem hir
          have l2 := List.length_pos_of_mem hir
          have l3 : ρ.countP (fun u => !(listed.setIfInBounds i true).getD u.i false) ≤ ρ.countP (fun u => !listed.getD u.i false) := List.countP_mono_left fun u _ hu => by rw [hset] at hu; revert hu; cases listed.getD u.i false <;> simp
          omega
      · -- one of the others
        obtain ⟨ti, hti, hti1⟩ := (hcov i hlt hSi).resolve_left hir
        have hpw' : (ρ ++ p).Pairwise (fun a b => clash ops a.o b.o a.c b.c = true → (Anc ops a.i b.i ∨ listed.getD a.i false = true)) := by
          refine List.pairwise_append.2 ⟨hpw.imp fun h hc => .inl (h hc), List.pairwise_of_forall_mem_list fun x hx y hy _ => .inr (hp x hx).1, ?_⟩
          intro x hx y hy hcl
          obtain ⟨_, y2, y3⟩ := hp y hy
          rw [y2] at hcl
          exact .inl (hcross x hx y.i y3 y.o (runs_ops hruns y (List.mem_append_right _ hy)) hcl)
        refine any_step hF hruns hpw' hnd hk hi (t := ti) (List.mem_append_left _ hti) hti1 hsz hA hA' hst hr fun c' a' hev hst' hr' => ?_
        refine ih _ c' a' p rem t (by simpa using hsz) hd' hruns ?_ ?_ ?_ hnd hdis hrn hk hok hw hst' hr' ?_ fun s c2 a2 hKs e2 s2 r2 => hQ s c2 a2 hKs (Ev.trans hst hev e2) s2 r2
        · intro x hx
          exact ⟨hmono _ (hp x hx).1, (hp x hx).2⟩
        · intro j hj hl
          obtain ⟨hne, hl2⟩ := hcov' j hj hl
          exact hcov j hj hl2
        · intro j hj
          refine ⟨?_, (hrem j hj).2⟩
          rw [hset, (hrem j hj).1]
          simp
          exact fun e => hir (e ▸ hj)
        · have l4 : ρ.countP (fun u => !(listed.setIfInBounds i true).getD u.i false) + 1 ≤ ρ.countP (fun u => !listed.getD u.i false) := by
            obtain ⟨pre, post, hρ⟩ := List.append_of_mem hti
            have le : ∀ l : List Tr, l.countP (fun u => !(listed.setIfInBounds i true).getD u.i false) ≤ l.countP (fun u => !listed.getD u.i false) := fun l =>
              List.countP_mono_left fun u _ hu => by rw [hset] at hu; revert hu; cases listed.getD u.i false <;> simp
            have l1 := le pre
            have l2 := le post
            rw [hρ]
            simp only [List.countP_append, List.countP_cons, hti1, hset i, hSi, decide_true, Bool.true_or, Bool.not_true, Bool.not_false, Bool.false_eq_true, if_false, if_true]
            omega
          omega

/-- all that is to be looked at beforehand -/
def altAll (ops : Array Oper) (ρ : List (Nat × Nat)) (heap : List Nat) (t : Alt) : Bool :=
  (heap.length + ρ.length == ops.size) && pairsOk ops (masks ops.toList []) ρ &&
  (ρ.all fun p => heap.all fun j => match ops[p.1]?, ops[j]? with | some a, some b => !clash ops a b p.2 2 || ((masks ops.toList []).getD j 0).testBit p.1 | _, _ => false) &&
  topo ops [] (ρ ++ heap.map fun i => (i, 2)) && ((List.range ops.size).all fun i => (ρ.map (·.1)).contains i || heap.contains i) && noDup (ρ.map (·.1) ++ heap) && kindsOk ops ρ && (heap.all fun i => decide (i < ops.size)) && altOk ops t heap (freeH ops heap)

theorem codeW_region_alt {P : Program} {N : Nat} {Q : AExit → AS → Prop} {s : AS} {id : Nat} {ops : Array Oper} (ρ : List (Nat × Nat)) (heap : List Nat) (t : Alt) (hm : P.follows .mixedOrders = true) (hok : altAll ops ρ heap t = true)
    (H : ∀ (K : AS → Prop), (∀ s, Q .normal s → K s) → AnyW P N ops ρ (AltW P N ops t K) s) : CodeW P N (.region id ops true) Q s := by
  intro F n base c a hF hst hr R hR
  refine wpIn_region_any hm ?_
  obtain ⟨tm, hp⟩ := s
  simp only [altAll, Bool.and_eq_true, beq_iff_eq] at hok
  obtain ⟨⟨⟨⟨⟨⟨⟨⟨k1, k2⟩, k3⟩, k4⟩, k5⟩, k6⟩, k7⟩, k8⟩, k9⟩ := hok
  obtain ⟨ρ', rfl, hρ, hK⟩ := anyW_runs (H _ (fun s h => h)) k7
  have hops := runs_ops hρ
  have hm' : ∀ (k i : Nat), ((masks ops.toList []).getD k 0).testBit i = true → Anc ops i k := masks_spec ops.toList [] (fun j o h => by simpa using h) (fun k i h => by simp at h)
  have hnd := noDup_spec k6
  rw [List.map_map] at hnd
  obtain ⟨n1, n2, n3⟩ := List.nodup_append.1 hnd
  rw [List.all_eq_true] at k3 k5 k8
  have hall : ∀ i, i < ops.size → i ∈ heap ∨ ∃ t ∈ ρ', t.i = i := by
    intro i hi
    have h1 := k5 i (List.mem_range.2 hi)
    rw [Bool.or_eq_true] at h1
    rcases h1 with h1 | h1
    · have h2 : i ∈ (ρ'.map fun t => (t.i, t.c)).map (·.1) := by simpa using h1
      rw [List.map_map] at h2
      obtain ⟨t, ht, rfl⟩ := List.mem_map.1 h2
      exact .inr ⟨t, ht, rfl⟩
    · exact .inl (by simpa using h1)
  have hev : Ev c (c.to { c.w with drawn := c.w.drawn + 1 }) := Ev.idle hst (Ev.refl c) rfl rfl rfl rfl fun k => .inl rfl
  have hst' : St (c.to { c.w with drawn := c.w.drawn + 1 }) := hst.idle rfl fun k o hk => .inl hk
  have hr' : SR N (base, F) (c.to { c.w with drawn := c.w.drawn + 1 }) ⟨tm, hp⟩ a := ⟨hr.h, hr.size, Nat.le_trans hr.above hev.size, hr.defers.ev hev, RoundOk.ev hev hr.round, fun t => (hr.tm t).ev hst hev⟩
  have hnone : ∀ j, (Array.replicate ops.size false).getD j false = false := fun j => by
    rw [Array.getD_eq_getD_getElem?, Array.getElem?_replicate]
    split <;> rfl
  refine wpAny_alt (base := (base, F)) (N := N) (tm0 := tm) (h0 := hp) hF (K := fun s => Q .normal s) (heap := heap) (pairs_spec hm' ρ' k2 hops) ?_ k4 ?_ hall _ _ (c.to { c.w with drawn := c.w.drawn + 1 }) a [] heap t (by simp) ?_ ?_ ?_ ?_ ?_ ?_ ?_ n2 ?_ k9 ?_ hst' ?_ ?_ ?_
  · intro x hx i hi o ho hcl
    have h1 := k3 (x.i, x.c) (List.mem_map.2 ⟨x, hx, rfl⟩)
    rw [List.all_eq_true] at h1
    have h2 := h1 i hi
    simp only [hops x hx, ho, hcl, Bool.not_true, Bool.false_or] at h2
    exact hm' _ _ h2
  · intro i hi
    rcases hall i hi with h | ⟨x, hx, rfl⟩
    · exact ⟨2, List.mem_append_right _ (List.mem_map.2 ⟨i, h, rfl⟩)⟩
    · exact ⟨x.c, List.mem_append_left _ (List.mem_map.2 ⟨x, hx, rfl⟩)⟩
  · intro j o ho hj
    simp only at hj
    rw [hnone] at hj; cases hj
  · rw [List.append_nil]; exact hρ
  · intro x hx; cases hx
  · intro i hi _; exact hall i hi
  · intro i hi
    exact ⟨hnone _, hi, by simpa using k8 i hi⟩
  · rw [List.append_nil]; exact n1
  · intro i hi hm2
    rw [List.append_nil] at hm2
    exact n3 i hm2 i hi rfl
  · intro x hx
    rw [List.append_nil] at hx
    have := List.all_eq_true.1 k7 (x.i, x.c) (List.mem_map.2 ⟨x, hx, rfl⟩)
    simpa [hops x hx] using this
  · rw [List.append_nil]; exact hK
  · rw [List.append_nil]
    have e1 : tmS N (fun i => (Array.replicate ops.size false).getD i false) ρ' tm = tm := funext fun x => tmS_skip fun t _ h => by rw [hnone] at h; cases h
    have e2 : hS (fun i => (Array.replicate ops.size false).getD i false) ρ' hp = hp := hS_skip fun t _ _ => hnone _
    rw [e1, e2]; exact hr'
  · have := List.countP_le_length (p := fun t : Tr => !(Array.replicate ops.size false).getD t.i false) (l := ρ')
    simp only [List.length_map] at k1
    omega
  · intro s c' a' hq h1 h2 h3
    exact hR _ _ c' a' _ hq (Ev.trans hst hev h1) h2 h3 rfl
section
variable (P : Program) (N : Nat) (ops : Array Oper) (K : AS → Prop) (s : AS)
theorem altW_done : AltW P N ops .done K s = K s := rfl
theorem altW_stop : AltW P N ops .stop K s = True := rfl
theorem altW_alt (i c : Nat) (sub more : Alt) : AltW P N ops (.alt i c sub more) K s = (AnyW P N ops [(i, c)] (AltW P N ops sub K) s ∧ AltW P N ops more K s) := rfl
end

/-- a long region in two pieces -/
theorem anyW_append {P : Program} {N : Nat} {ops : Array Oper} {K : AS → Prop} : ∀ (l1 l2 : List (Nat × Nat)), AnyW P N ops (l1 ++ l2) K = AnyW P N ops l1 (AnyW P N ops l2 K)
  | [], l2 => funext fun s => rfl
  | p :: l1, l2 => by
    funext s
    show (match ops[p.1]? with | some o => AnyO P N ops p.2 o s (AnyW P N ops (l1 ++ l2) K) | none => False) = (match ops[p.1]? with | some o => AnyO P N ops p.2 o s (AnyW P N ops l1 (AnyW P N ops l2 K)) | none => False)
    rw [anyW_append l1 l2]
theorem anyW_take {P : Program} {N : Nat} {ops : Array Oper} {l : List (Nat × Nat)} {K : AS → Prop} {s : AS} (k : Nat) (h : ∀ K' : AS → Prop, (∀ s, AnyW P N ops (l.drop k) K s → K' s) → AnyW P N ops (l.take k) K' s) : AnyW P N ops l K s := by
  have := h (AnyW P N ops (l.drop k) K) fun s hs => hs
  rw [← anyW_append, List.take_append_drop] at this
  exact this

/-- behind the first part only J is known -/
theorem codeW_seq_cut {P : Program} {N : Nat} {x y : Code} {Q : AExit → AS → Prop} {s : AS} (J : AS → Prop) (h1 : ∀ s, J s → CodeW P N y Q s) (h2 : CodeW P N x (AExit.then J Q) s) : CodeW P N (.seq x y) Q s := by
  refine codeW_seq (h2.mono fun e s' hq => ?_)
  cases e with
  | normal => exact h1 s' hq
  | _ => exact hq
end Go.Proofs.YthkiabcdkhpheaaDoor.Ab

/-
  The abstract program logic: a nil slice that is about to grow gets a token of its own.
-/
set_option linter.unusedVariables false
namespace Go.Proofs.YthkiabcdkhpheaaDoor.Ab

theorem tokNil_new {c : Cx} (e s : Nat) : ∀ b, some c.h.length = some b → (c.add c.w (.grow e s 0) none).tokNil b s := by
  intro b hb
  cases hb
  refine ⟨by simp [Cx.add], fun e2 s2 n2 hg2 => ?_⟩
  simp [Cx.add] at hg2
  exact ⟨hg2.2.1.symm, fun _ => by simp [Cx.add]⟩

theorem codeW_token {P : Program} {N : Nat} {code : Code} {Q : AExit → AS → Prop} {tm : Nat → AV} {h : AH} (d e s : Nat) (hd : tm d = .v (.slice none 0 0))
    (H : CodeW P N code Q ⟨upd tm d (.sl s [] (some h.length)), h ++ [.grow e s 0]⟩) : CodeW P N code Q ⟨tm, h⟩ := by
  intro F n base c a hF hst hr R hR
  have hh : c.h = h := hr.h
  subst hh
  have hg := Grows.refl c.w
  have ho : ∀ B, (none : Option Nat) = some B → c.w.heap.size ≤ B := fun B h => by cases h
  have hev := Ev.add hst hg (.grow e s 0) none ho
  have hρ : (c.add c.w (.grow e s 0) none).ρ c.h.length = none := by simp [Cx.add]
  have hst' : St (c.add c.w (.grow e s 0) none) := St.add hst hg _ _ ho (fun B hB => by rw [hρ] at hB; cases hB)
  refine H F n base (c.add c.w (.grow e s 0) none) a hF hst' ⟨rfl, hr.size, hr.above, hr.defers.ev hev, RoundOk.ev hev hr.round, fun t => ?_⟩ R fun e' s' c' a' ex hq h1 h2 h3 h4 => hR e' s' c' a' ex hq (Ev.trans hst hev h1) h2 h3 h4
  simp only [upd]
  split
  · rename_i ht
    subst ht
    have h1 := hr.tm t
    simp only [hd] at h1
    generalize hu : a.tmps.getD t undef = u at h1
    cases h1
    exact .slnil _ _ (tokNil_new e s)
  · exact (hr.tm t).ev hst hev
end Go.Proofs.YthkiabcdkhpheaaDoor.Ab

/-
  The abstract program logic: a loop over a function, its rounds, and what hands them on.
-/
set_option linter.unusedVariables false
namespace Go.Proofs.YthkiabcdkhpheaaDoor.Ab

def LoopA.at (i : LoopA) (st : LoopState) (pend : Option Code) : LoopA := { i with st := st, pend := pend }

/-- the record turns -/
theorem turn_loop {c : Cx} (hs : St c) {id : Nat} {i : LoopA} (hb : c.h[id]? = some (.loop i)) {B : Nat} {r : Loop} (hρ : c.ρ id = some B) (hr : c.w.heap[B]? = some (.loop r))
    (he : (r.state = i.st ∧ r.pending = i.pend ∧ r.params = i.params ∧ r.assign = i.assign ∧ r.body = i.body ∧ r.tmps.size = i.N) ∧ ∀ t, Rel c (i.tm t) (r.tmps.getD t undef)) (st : LoopState) (pend : Option Code) :
    Ev c (c.turn (c.w.putObj B (.loop { r with state := st, pending := pend })) id (.loop (i.at st pend))) ∧
    St (c.turn (c.w.putObj B (.loop { r with state := st, pending := pend })) id (.loop (i.at st pend))) := by
  have hlt : B < c.w.heap.size := (Array.getElem?_eq_some_iff.1 hr).1
  have hold : ∀ k, k ≠ B → (c.w.putObj B (.loop { r with state := st, pending := pend })).heap[k]? = c.w.heap[k]? := fun k hk => World.putObj_heap_other hk
  have hev := Ev.turn (b' := .loop (i.at st pend)) hs hb rfl hρ (w := c.w.putObj B (.loop { r with state := st, pending := pend })) rfl rfl rfl World.putObj_size hold ⟨_, rfl, rfl⟩
  refine ⟨hev, St.turn hs hb rfl hρ hold hev ?_⟩
  refine ⟨B, { r with state := st, pending := pend }, hρ, World.putObj_heap_same hlt, ?_, fun t => (he.2 t).ev hs hev⟩
  obtain ⟨_, _, h3, h4, h5, h6⟩ := he.1
  exact ⟨rfl, rfl, h3, h4, h5, h6⟩

/-- temporaries with a round's arguments -/
def updL (tm : Nat → AV) : List Tmp → List AV → (Nat → AV)
  | t :: ts, a :: as => updL (upd tm t a) ts as
  | _, _ => tm

theorem updL_rel {c : Cx} : ∀ (ts : List Tmp) (as : List AV) (vals : List Value) (tm : Nat → AV) (tmps : Array Value), (∀ t ∈ ts, t < tmps.size) → vals.length = as.length →
    (∀ (j : Nat) a u, as[j]? = some a → vals[j]? = some u → Rel c a u) → (∀ t, Rel c (tm t) (tmps.getD t undef)) →
    (((ts.zip vals).foldl (fun (tmps : Array Value) (p : Tmp × Value) => tmps.setIfInBounds p.1 p.2) tmps).size = tmps.size) ∧
    ∀ t, Rel c (updL tm ts as t) (((ts.zip vals).foldl (fun (tmps : Array Value) (p : Tmp × Value) => tmps.setIfInBounds p.1 p.2) tmps).getD t undef)
  | [], as, vals, tm, tmps, _, _, _, h => ⟨rfl, h⟩
  | t :: ts, [], [], tm, tmps, _, _, _, h => ⟨rfl, h⟩
  | t :: ts, a :: as, u :: vals, tm, tmps, hts, hl, hr, h => by
    have := updL_rel (c := c) ts as vals (upd tm t a) (tmps.setIfInBounds t u) (fun t' ht' => by simpa using hts t' (by simp [ht'])) (by simpa using hl) (fun j a' u' h1 h2 => hr (j + 1) a' u' (by simpa using h1) (by simpa using h2)) (fun t' => by
      simp only [upd]
      split
      · rename_i e
        subst e
        rw [Array.getD_eq_getD_getElem?, Array.getElem?_setIfInBounds_self_of_lt (hts _ (by simp))]
        exact hr 0 a u rfl rfl
      · rename_i e
        rw [Array.getD_eq_getD_getElem?, Array.getElem?_setIfInBounds_ne (fun e' => e e'.symm), ← Array.getD_eq_getD_getElem?]
        exact h t')
    simpa [updL] using this
  | t :: ts, [], u :: vals, _, _, _, hl, _, _ => by simp at hl
  | t :: ts, a :: as, [], _, _, _, hl, _, _ => by simp at hl

/-- what a round owes -/
def RoundQ (id : Nat) (Q : AOut → AH → Prop) : AExit → AS → Prop
  | .normal, s => ∃ i, s.h[id]? = some (.loop i) ∧ Q (.ret (.v (.bool true))) (s.h.set id (.loop (i.at .ready none)))
  | .ret, s => ∃ i, s.h[id]? = some (.loop i) ∧ Q (.ret (.v (.bool false))) (s.h.set id (.loop (i.at .done (some .ret))))
  | .exit k, s => ∃ i, s.h[id]? = some (.loop i) ∧ Q (.ret (.v (.bool false))) (s.h.set id (.loop (i.at .done (some (.exit k)))))
  | .panic _, _ => False

/-- the left sides have been assigned to: the round begins -/
def BeginQ (P : Program) (N id : Nat) (body : Code) (Q : AOut → AH → Prop) : AExit → AS → Prop
  | .normal, s => ∃ i, s.h[id]? = some (.loop i) ∧ i.st = .ready ∧ CodeW P N body (RoundQ id Q) ⟨s.tm, s.h.set id (.loop (i.at .busy i.pend))⟩
  | _, _ => False

theorem SR.turned {N : Nat} {base : Bs × Fence} {c c' : Cx} {s : AS} {a : Act} (h : SR N base c s a) (hs : St c) (he : Ev c c') : SR N base c' ⟨s.tm, c'.h⟩ a :=
  ⟨rfl, h.size, Nat.le_trans h.above he.size, h.defers.ev he, RoundOk.ev he h.round, fun t => (h.tm t).ev hs he⟩

theorem funW_yield {P : Program} {id : Nat} {i : LoopA} {h : AH} {args : List AV} {Q : AOut → AH → Prop} (hb : h[id]? = some (.loop i)) (hn : args.length = i.params.size) (hps : ∀ t ∈ i.params.toList, t < i.N)
    (H : CodeW P i.N i.assign (BeginQ P i.N id i.body Q) ⟨updL i.tm i.params.toList args, h⟩) : FunW P (.mp id) args h Q := by
  intro F n c v vals hF hs hh hv hvs o a next Qx h1 h2
  subst hh
  cases hv with
  | mp _ x hid ho hx =>
    obtain ⟨B, hρ, rfl⟩ := hx.2.1 i hb
    obtain ⟨B', r, hρ', hr, he1, he2⟩ := hs.blocks id _ hb
    rw [hρ] at hρ'; cases hρ'
    obtain ⟨e1, e2, e3, e4, e5, e6⟩ := he1
    have hy := run_yield (P := P) (args := vals) hr (by rw [hvs.1, hn, e3])
    simp only [Deferred.ofValue, Sem.run_bind, Sem.run_pure, Result.andThen_ok, invoke, Array.empty_append, hy, Oper.uponIn_round]
    refine ⟨fun hd => by simp [hF.depth] at hd, RoundIn.mono (roundIn_of_wpIn (R := fun e w' => match e with | .returned v => next (a.put o.dst v) w' | _ => False) (hF.fn _) ?_) (by
      intro e w' he
      cases e with
      | returned v => exact he
      | panicked ch => exact he.elim
      | outgrown => exact he.elim)⟩
    rw [e4]
    have hl := updL_rel (c := c) i.params.toList args vals.toList i.tm r.tmps (by rw [e6]; exact hps) (by simpa using hvs.1) (fun j a' u' g1 g2 => hvs.2 j a' u' g1 (by simpa using g2)) he2
    have hz : (r.params.zip vals).foldl (fun (tmps : Array Value) (x : Tmp × Value) => match x with | (t, a) => tmps.setIfInBounds t a) r.tmps = (i.params.toList.zip vals.toList).foldl (fun (tmps : Array Value) (p : Tmp × Value) => tmps.setIfInBounds p.1 p.2) r.tmps := by
      rw [← e3, ← Array.foldl_toList, Array.toList_zip]
    rw [hz]
    refine H (F.inRound B) (n - 1) ⟨0, []⟩ c _ (hF.inRound B) hs ⟨rfl, hl.1.trans e6, Nat.zero_le _, ⟨[], rfl, List.nodup_nil, fun D h => by cases h⟩, (fun l hl => by cases hl; exact ⟨id, i, hb, hρ⟩), hl.2⟩ _ ?_
    intro e s' c' a' e' hQ hev hst hsr hex
    cases e with
    | normal =>
      cases hex
      obtain ⟨i', hi', hrd, hbody⟩ := hQ
      rw [← hsr.h] at hi' hbody
      obtain ⟨b0, hb0, hk⟩ := hev.kin id _ hb
      rw [hi'] at hb0; cases hb0
      simp only [Kin] at hk
      obtain ⟨_, _, hρ2⟩ := hk
      rw [hρ] at hρ2
      obtain ⟨B', r', hρ', hr', he'⟩ := hst.blocks id _ hi'
      rw [hρ2] at hρ'; cases hρ'
      have hrun := run_beginRound (P := P) hr' (he'.1.1.trans hrd)
      obtain ⟨hev2, hst2⟩ := turn_loop hst hi' hρ2 hr' he' .busy i'.pend
      have hrr : ({ r' with state := .busy } : Loop) = { r' with state := .busy, pending := i'.pend } := by rw [← he'.1.2.1]
      rw [hrr] at hrun
      refine ⟨_, hrun, ?_⟩
      rw [e5]
      refine hbody (F.inRound B) (n - 1) ⟨0, []⟩ (c'.turn (c'.w.putObj B (.loop { r' with state := .busy, pending := i'.pend })) id (.loop (i'.at .busy i'.pend))) a' (hF.inRound B) hst2 (SR.turned hsr hst hev2) _ ?_
      intro e s2 c2 a2 e2 hQ2 hev3 hst3 hsr3 hex3
      have fin : ∀ (st : LoopState) (jump : Option Code) (hstj : st = if jump.isNone then .ready else .done) (i2 : LoopA), s2.h[id]? = some (.loop i2) → Q (.ret (.v (.bool jump.isNone))) (s2.h.set id (.loop (i2.at st jump))) →
          ∃ v w', (Instr.endRound B jump).run P c2.w = .ok v w' ∧ next (a.put o.dst v) w' := by
        intro st jump hstj i2 hi2 hq
        rw [← hsr3.h] at hi2 hq
        have hi2' : (c'.turn (c'.w.putObj B (.loop { r' with state := .busy, pending := i'.pend })) id (.loop (i'.at .busy i'.pend))).h[id]? = some (.loop (i'.at .busy i'.pend)) := by simp [Cx.turn, lt_of_get hi']
        obtain ⟨b0, hb0, hk⟩ := hev3.kin id _ hi2'
        rw [hi2] at hb0; cases hb0
        simp only [Kin] at hk
        obtain ⟨_, _, hρ3⟩ := hk
        have hρ3 : c2.ρ id = some B := hρ3.trans hρ2
        obtain ⟨B', r2, hρ', hr2, he2⟩ := hst3.blocks id _ hi2
        rw [hρ3] at hρ'; cases hρ'
        obtain ⟨hev4, hst4⟩ := turn_loop hst3 hi2 hρ3 hr2 he2 st jump
        have hrun := run_endRound (P := P) jump hr2
        rw [← hstj] at hrun
        refine ⟨_, _, hrun, ?_⟩
        exact h1 _ _ _ hq (Ev.trans hs hev (Ev.trans hst hev2 (Ev.trans hst2 hev3 hev4))) hst4 (.v _)
      cases e with
      | normal => cases hex3; obtain ⟨i2, g1, g2⟩ := hQ2; exact fin .ready none rfl i2 g1 g2
      | ret => cases hex3; obtain ⟨i2, g1, g2⟩ := hQ2; exact fin .done (some .ret) rfl i2 g1 g2
      | exit k => cases hex3; obtain ⟨i2, g1, g2⟩ := hQ2; exact fin .done (some (.exit k)) rfl i2 g1 g2
      | panic av => exact hQ2.elim
    | ret => exact hQ.elim
    | exit k => exact hQ.elim
    | panic av => exact hQ.elim

/-- how the statement ends -/
def EndQ (Q : AExit → AS → Prop) (s : AS) : Option Code → Prop
  | none => Q .normal s
  | some .ret => Q .ret s
  | some (.exit k) => Q (.exit k) s
  | some _ => False

def LoopQ (Q : AExit → AS → Prop) (tm : Nat → AV) (id : Nat) : AOut → AH → Prop
  | .ret _, h => ∃ i, h[id]? = some (.loop i) ∧ i.st ≠ .busy ∧ EndQ Q ⟨tm, h.set id (.loop (i.at .exhausted i.pend))⟩ i.pend
  | .panic _, _ => False

theorem codeW_rangeFunc {P : Program} {N : Nat} {g : Operand} {ps : Array Tmp} {assign body : Code} {Q : AExit → AS → Prop} {tm : Nat → AV} {h : AH} {f : FuncId} {first cap : List AV} (hg : AS.ev ⟨tm, h⟩ g = .fn (.func f) first cap)
    (H : CallW P f (first ++ [.mp h.length] ++ cap) (h ++ [.loop ⟨ps, assign, body, N, tm, .ready, none⟩]) (LoopQ Q tm h.length)) : CodeW P N (.rangeFunc g ps assign body) Q ⟨tm, h⟩ := by
  intro F n base c a hF hst hr R hR
  have hh : c.h = h := hr.h
  subst hh
  have hgv := hr.eval g
  rw [show AS.ev ⟨tm, c.h⟩ g = _ from hg] at hgv
  obtain ⟨vs, ws, hae, hv1, hv2⟩ : ∃ vs ws, a.eval g = .func (.func f) vs ws ∧ RelL c first vs ∧ RelL c cap ws := by
    generalize a.eval g = u at hgv
    cases hgv with
    | fn _ _ _ vs ws e1 e2 g1 g2 => exact ⟨vs, ws, rfl, ⟨e1, g1⟩, ⟨e2, g2⟩⟩
  -- what is owed once the record is laid
  have key : ∀ (fn : FuncId) (l : Nat) (mark : List Deferred) (w1 : World) (dfs : Nat), Grows c.w w1 → c.w.heap.size ≤ l → w1.heap[l]? = some (.loop ⟨.ready, none, fn, a.tmps, ps, assign, body, dfs⟩) →
      (∀ c1, Ev c c1 → c1.w = w1 → (∀ D, D ∈ [c.w.heap.size] → D ≠ l → ¬ c1.owns D) → DefOk c1 base (mark ++ a.defers)) →
      ∃ (d : Deferred) (w₁' : World) (f' : FuncId) (args : Array Value) (w₂ : World),
      (resolve a.eval (rangeCall g l) 0).run P w1 = .ok d w₁' ∧
      (∀ f', Target.leads P w₁' d.target d.args = some f' → F.fn f') ∧
      (invoke d.target d.args).run P w₁' = .ok (.enter f' args) w₂ ∧
      (F.depth.isSome = true → 1 ≤ n) ∧
      CallsIn F (n - 1) P f' args w₂ (rangePost F n P l R { a with defers := mark ++ a.defers }) := by
    intro fn l mark w1 dfs hgr hl hrec hdef
    have hlo : ∀ B, (some l : Option Nat) = some B → c.w.heap.size ≤ B := fun B hB => by cases hB; exact hl
    have hev := Ev.add hst hgr (.loop ⟨ps, assign, body, N, tm, .ready, none⟩) (some l) hlo
    have hρ1 : (c.add w1 (.loop ⟨ps, assign, body, N, tm, .ready, none⟩) (some l)).ρ c.h.length = some l := by simp [Cx.add]
    have hst1 : St (c.add w1 (.loop ⟨ps, assign, body, N, tm, .ready, none⟩) (some l)) := St.add hst hgr _ _ hlo ⟨l, _, hρ1, hrec, ⟨rfl, rfl, rfl, rfl, rfl, hr.size⟩, fun t => (hr.tm t).ev hst hev⟩
    have hb1 : (c.add w1 (.loop ⟨ps, assign, body, N, tm, .ready, none⟩) (some l)).h[c.h.length]? = some (.loop ⟨ps, assign, body, N, tm, .ready, none⟩) := by simp [Cx.add]
    have hd1 : DefOk (c.add w1 (.loop ⟨ps, assign, body, N, tm, .ready, none⟩) (some l)) base (mark ++ a.defers) := by
      refine hdef _ hev rfl ?_
      intro D hD hne ⟨id, b, h1, h2, h3⟩
      simp only [List.mem_singleton] at hD
      subst hD
      by_cases hid : id = c.h.length
      · subst hid; rw [hρ1] at h3; cases h3; exact hne rfl
      · have hlt := lt_of_get h1
        simp only [Cx.add, List.length_append, List.length_cons, List.length_nil] at hlt
        have h4 : c.h[id]? = some b := by
          simp only [Cx.add] at h1
          rwa [List.getElem?_append_left (by omega)] at h1
        have h5 : c.ρ id = some c.w.heap.size := by simpa [Cx.add, hid] using h3
        have := hst.lt h4 h2 h5
        omega
    have hy : Rel (c.add w1 (.loop ⟨ps, assign, body, N, tm, .ready, none⟩) (some l)) (.mp c.h.length) (.func (.yield l) #[] #[]) :=
      .mp _ _ (by simp [Cx.add]) rfl ⟨fun es h => (by rw [hb1] at h; cases h), fun i _ => ⟨l, hρ1, rfl⟩, fun s p h => (by rw [hb1] at h; cases h)⟩
    have hall : RelL (c.add w1 (.loop ⟨ps, assign, body, N, tm, .ready, none⟩) (some l)) (first ++ [.mp c.h.length] ++ cap) (vs ++ #[.func (.yield l) #[] #[]] ++ ws) :=
      RelL.append (RelL.append (hv1.ev hst hev) ⟨rfl, fun j a u h1 h2 => by
        cases j with
        | zero => simp at h1 h2; subst h1; subst h2; exact hy
        | succ j => simp at h1⟩) (hv2.ev hst hev)
    refine ⟨⟨.fn (.func f) ws, vs ++ #[.func (.yield l) #[] #[]]⟩, w1, f, vs ++ #[.func (.yield l) #[] #[]] ++ ws, w1, ?_, fun _ _ => hF.fn _, ?_, fun hd => by simp [hF.depth] at hd, ?_⟩
    · have e0 : a.eval (.const (.func (.yield l) #[] #[])) = .func (.yield l) #[] #[] := rfl
      simp only [resolve, hae, Deferred.ofValue, Sem.run_pure, List.map_toArray, List.map_cons, List.map_nil, e0]
    · simp only [invoke, H.1]
    · refine (H.2 F (n - 1) _ _ hF hst1 rfl hall).mono ?_
      rintro e w' ⟨o, c', hQ, hev2, hst2, rfl, hend⟩
      cases o with
      | panic x => exact hQ.elim
      | ret x =>
        obtain ⟨u, rfl, hu⟩ := hend
        obtain ⟨i, hi, hbusy, hq⟩ := hQ
        obtain ⟨b0, hb0, hk⟩ := hev2.kin _ _ hb1
        rw [hi] at hb0; cases hb0
        simp only [Kin] at hk
        obtain ⟨_, _, hρ2⟩ := hk
        rw [hρ1] at hρ2
        obtain ⟨B', r, hρ', hrr, he⟩ := hst2.blocks _ _ hi
        rw [hρ2] at hρ'; cases hρ'
        have hrun := run_endLoop (P := P) hrr (by rw [he.1.1]; exact hbusy)
        obtain ⟨hev4, hst4⟩ := turn_loop hst2 hi hρ2 hrr he .exhausted i.pend
        have hre : ({ r with state := .exhausted } : Loop) = { r with state := .exhausted, pending := i.pend } := by rw [← he.1.2.1]
        rw [hre] at hrun
        refine ⟨_, _, hrun, ?_⟩
        have hevA := Ev.trans hst hev (Ev.trans hst1 hev2 hev4)
        have hsr : SR N (base, F) (c'.turn (c'.w.putObj l (.loop { r with state := .exhausted, pending := i.pend })) c.h.length (.loop (i.at .exhausted i.pend))) ⟨tm, c'.h.set c.h.length (.loop (i.at .exhausted i.pend))⟩ { a with defers := mark ++ a.defers } :=
          ⟨rfl, hr.size, Nat.le_trans hr.above hevA.size, hd1.ev (Ev.trans hst1 hev2 hev4), RoundOk.ev hevA hr.round, fun t => (hr.tm t).ev hst hevA⟩
        rw [he.1.2.1]
        cases hp : i.pend with
        | none =>
          rw [hp] at hq hsr hst4 hevA
          exact hR .normal _ _ _ _ hq hevA hst4 hsr rfl
        | some j =>
          rw [hp] at hq hsr hst4 hevA
          cases j with
          | ret => exact wpIn_ret (hR .ret _ _ _ _ hq hevA hst4 hsr rfl)
          | exit k => exact wpIn_exit (hR (.exit k) _ _ _ _ hq hevA hst4 hsr rfl)
          | _ => exact hq.elim
  refine wpIn_rangeFunc fun fn hfn => ?_
  obtain ⟨Ds, e1, hnd, hall⟩ := hr.defers
  cases hro : F.round with
  | none =>
    have hgr : Grows c.w ((c.w.alloc (.deferred (some []))).alloc (.loop ⟨.ready, none, fn, a.tmps, ps, assign, body, c.w.heap.size⟩)) := Grows.trans (Grows.alloc _ _) (Grows.alloc _ _)
    have hnew := World.alloc_heap_new (c.w.alloc (.deferred (some []))) (.loop ⟨.ready, none, fn, a.tmps, ps, assign, body, c.w.heap.size⟩)
    rw [World.size_alloc] at hnew
    obtain ⟨d, w1', f', args, w2, k1, k2, k3, k4, k5⟩ := key fn (c.w.heap.size + 1) [mkMark c.w.heap.size] _ c.w.heap.size hgr (by omega) hnew (fun c1 hc1 hw hno => ⟨c.w.heap.size :: Ds, by simp [e1], List.nodup_cons.2 ⟨fun hm => by
        have := (Array.getElem?_eq_some_iff.1 (hall _ hm).2.1).1
        omega, hnd⟩, fun D hD => by
        simp only [List.mem_cons] at hD
        rcases hD with rfl | hD
        · refine ⟨hr.above, ?_, hno _ (by simp) (by omega)⟩
          rw [hw, heap_alloc_at _ _ _ (by simp)]
          exact World.alloc_heap_new _ _
        · obtain ⟨g1, g2, g3⟩ := hall D hD
          have hlt := (Array.getElem?_eq_some_iff.1 g2).1
          exact ⟨g1, (hc1.frame D hlt g3).trans g2, fun ho => g3 (hc1.owns hlt ho)⟩⟩)
    exact ⟨_, _, _, d, w1', f', args, w2, run_enterLoop_outer fn a.tmps ps assign body, k1, k2, k3, k4, k5⟩
  | some l0 =>
    obtain ⟨id0, i0, g1, g2⟩ := hr.round l0 hro
    obtain ⟨B0, r0, g3, g4, _⟩ := hst.blocks _ _ g1
    rw [g2] at g3; cases g3
    obtain ⟨d, w1', f', args, w2, k1, k2, k3, k4, k5⟩ := key fn c.w.heap.size [] _ r0.defers (Grows.alloc _ _) (Nat.le_refl _) (World.alloc_heap_new _ _) (fun c1 hc1 hw hno => DefOk.ev hc1 ⟨Ds, e1, hnd, hall⟩)
    exact ⟨_, _, _, d, w1', f', args, w2, run_enterLoop_inner g4 fn a.tmps ps assign body, k1, k2, k3, k4, k5⟩

end Go.Proofs.YthkiabcdkhpheaaDoor.Ab

/-
  The abstract program logic: tokens for nil slices that lie in cells or come as arguments; maps of numbers.
-/
set_option linter.unusedVariables false
namespace Go.Proofs.YthkiabcdkhpheaaDoor.Ab

theorem add_token {c : Cx} (hs : St c) (e s : Nat) : Ev c (c.add c.w (.grow e s 0) none) ∧ St (c.add c.w (.grow e s 0) none) := by
  have hg := Grows.refl c.w
  have ho : ∀ B, (none : Option Nat) = some B → c.w.heap.size ≤ B := fun B h => by cases h
  have hρ : (c.add c.w (.grow e s 0) none).ρ c.h.length = none := by simp [Cx.add]
  exact ⟨Ev.add hs hg (.grow e s 0) none ho, St.add hs hg _ _ ho (fun B hB => by rw [hρ] at hB; cases hB)⟩

theorem tokenCell {c : Cx} (hst : St c) (id ty e s : Nat) (hb : c.h[id]? = some (.cells ty 1 [.v (.slice none 0 0)])) :
    ∃ c2, Ev c c2 ∧ St c2 ∧ c2.h = (c.h ++ [AB.grow e s 0]).set id (AB.cells ty 1 [.sl s [] (some c.h.length)]) ∧ c2.w = c.w := by
  obtain ⟨hev, hst1⟩ := add_token hst e s
  have hlt := lt_of_get hb
  have hb1 : (c.add c.w (.grow e s 0) none).h[id]? = some (.cells ty 1 [.v (.slice none 0 0)]) := by
    simp only [Cx.add]; rw [List.getElem?_append_left hlt]; exact hb
  obtain ⟨B, cur, hρ, hcur, h3, h4⟩ := hst1.blocks id _ hb1
  have hev2 := Ev.turn (b' := .cells ty 1 [.sl s [] (some c.h.length)]) hst1 hb1 rfl hρ (w := c.w) rfl rfl rfl rfl (fun _ _ => rfl) (.inr ⟨_, rfl, rfl, fun _ cur _ h => ⟨cur, h, rfl⟩⟩)
  have htok : ((c.add c.w (.grow e s 0) none).turn c.w id (.cells ty 1 [.sl s [] (some c.h.length)])).tokNil c.h.length s := by
    refine ⟨by simp [Cx.turn, Cx.add], fun e2 s2 n2 hg2 => ?_⟩
    simp only [Cx.turn, Cx.add] at hg2
    rw [List.getElem?_set_ne (by omega), List.getElem?_append_right (Nat.le_refl _), Nat.sub_self] at hg2
    simp at hg2
    exact ⟨hg2.2.1.symm, fun _ => by simp [Cx.turn, Cx.add]⟩
  have hst2 := St.turn (b' := .cells ty 1 [.sl s [] (some c.h.length)]) hst1 hb1 rfl hρ (w := c.w) (fun _ _ => rfl) hev2 ⟨B, cur, hρ, hcur, (by simp [AV.cells]), by
    intro j a' hj
    cases j with
    | zero =>
      simp only [flat, List.flatMap_cons, List.flatMap_nil, AV.cells, List.append_nil, List.getElem?_cons_zero, Option.some.injEq] at hj
      subst hj
      obtain ⟨u, g1, g2, g3⟩ := h4 0 _ (by simp [flat, AV.cells]; rfl)
      cases g3
      exact ⟨_, g1, g2, .slnil _ _ fun b hb => by cases hb; exact htok⟩
    | succ j => simp [flat, AV.cells] at hj⟩
  exact ⟨_, Ev.trans hst hev hev2, hst2, rfl, rfl⟩

/-- a nil slice in a cell gets a token -/
theorem codeW_tokenCell {P : Program} {N : Nat} {code : Code} {Q : AExit → AS → Prop} {tm : Nat → AV} {h : AH} (id ty e s : Nat) (hb : h[id]? = some (.cells ty 1 [.v (.slice none 0 0)]))
    (H : CodeW P N code Q ⟨tm, (h ++ [AB.grow e s 0]).set id (AB.cells ty 1 [.sl s [] (some h.length)])⟩) : CodeW P N code Q ⟨tm, h⟩ := by
  intro F n base c a hF hst hr R hR
  have hh : c.h = h := hr.h
  subst hh
  obtain ⟨c2, hev, hst2, hh2, hw⟩ := tokenCell hst id ty e s hb
  rw [← hw]
  exact H F n base c2 a hF hst2 ⟨hh2, hr.size, Nat.le_trans hr.above hev.size, hr.defers.ev hev, RoundOk.ev hev hr.round, fun t => (hr.tm t).ev hst hev⟩ R fun e' s' c' a' ex hq h1 h2 h3 h4 => hR e' s' c' a' ex hq (Ev.trans hst hev h1) h2 h3 h4

theorem funW_tokenCell {P : Program} {fv : AV} {args : List AV} {h : AH} {Q : AOut → AH → Prop} (id ty e s : Nat) (hb : h[id]? = some (.cells ty 1 [.v (.slice none 0 0)]))
    (H : FunW P fv args ((h ++ [AB.grow e s 0]).set id (AB.cells ty 1 [.sl s [] (some h.length)])) Q) : FunW P fv args h Q := by
  intro F n c v vals hF hs hh hv hvs o a next Qx h1 h2
  subst hh
  obtain ⟨c2, hev, hst2, hh2, hw⟩ := tokenCell hs id ty e s hb
  rw [← hw]
  exact H F n c2 v vals hF hst2 hh2 (hv.ev hs hev) (hvs.ev hs hev) o a next Qx (fun r c' x hQ he => h1 r c' x hQ (Ev.trans hs hev he)) (fun r c' x hQ he => h2 r c' x hQ (Ev.trans hs hev he))

/-- a nil slice as first argument gets a token -/
theorem funW_nilArg {P : Program} {fv : AV} {args : List AV} {h : AH} {Q : AOut → AH → Prop} (e s : Nat) (H : FunW P fv (.sl s [] (some h.length) :: args) (h ++ [.grow e s 0]) Q) : FunW P fv (.v (.slice none 0 0) :: args) h Q := by
  intro F n c v vals hF hs hh hv hvs o a next Qx h1 h2
  subst hh
  obtain ⟨hev, hst1⟩ := add_token hs e s
  refine H F n (c.add c.w (.grow e s 0) none) v vals hF hst1 rfl (hv.ev hs hev) ⟨hvs.1, fun j a u hj hu => ?_⟩ o a next Qx (fun r c' x hQ he => h1 r c' x hQ (Ev.trans hs hev he)) (fun r c' x hQ he => h2 r c' x hQ (Ev.trans hs hev he))
  cases j with
  | zero =>
    simp only [List.getElem?_cons_zero, Option.some.injEq] at hj
    subst hj
    have := hvs.2 0 _ u rfl hu
    cases this
    exact .slnil _ _ (tokNil_new e s)
  | succ j => exact (hvs.2 (j + 1) a u (by simpa using hj) hu).ev hs hev

theorem frz_none {h : AH} {m : Nat} : ∀ (j : Nat) (a a' : AV), ([] : List AV)[j]? = some a → ([] : List AV)[j]? = some a' → Frz h m a a' := fun j a a' h1 => by simp at h1
theorem frz_one {h : AH} {m : Nat} {x y : AV} (hf : Frz h m x y) : ∀ (j : Nat) (a a' : AV), [x][j]? = some a → [y][j]? = some a' → Frz h m a a'
  | 0, a, a', h1, h2 => by simp at h1 h2; subst h1; subst h2; exact hf
  | j + 1, a, a', h1, _ => by simp at h1
theorem frz_cons {h : AH} {m : Nat} {x y : AV} {l l' : List AV} (hf : Frz h m x y) (hl : ∀ (j : Nat) (a a' : AV), l[j]? = some a → l'[j]? = some a' → Frz h m a a') : ∀ (j : Nat) (a a' : AV), (x :: l)[j]? = some a → (y :: l')[j]? = some a' → Frz h m a a'
  | 0, a, a', h1, h2 => by simp at h1 h2; subst h1; subst h2; exact hf
  | j + 1, a, a', h1, h2 => hl j a a' (by simpa using h1) (by simpa using h2)

theorem endQ_none (Q : AExit → AS → Prop) (s : AS) : EndQ Q s none = Q .normal s := rfl

/-! ### maps of numbers -/

def ikey (n : Int) : Value := .int .i64 n
def imap (l : List (Int × AV)) : List (Value × AV) := l.map fun p => (ikey p.1, p.2)
def igetA (k : Int) : List (Int × AV) → Option AV
  | [] => none
  | p :: l => if k = p.1 then some p.2 else igetA k l

theorem same_int (a b : Int) : Instr.sameNow (.int .i64) (ikey a) (ikey b) = some (a == b) := rfl

theorem findA_int (k : Int) : ∀ l : List (Int × AV), findA (.int .i64) (.int .i64 k) (imap l) = some (igetA k l)
  | [] => rfl
  | p :: l => by
    have h := same_int k p.1
    have e : imap (p :: l) = (ikey p.1, p.2) :: imap l := rfl
    rw [e]
    simp only [findA, igetA]
    rw [show Instr.sameNow (.int .i64) (.int .i64 k) (ikey p.1) = some (k == p.1) from rfl]
    by_cases hk : k = p.1
    · rw [if_pos hk, show (k == p.1) = true by simpa using hk]
    · rw [if_neg hk, show (k == p.1) = false by simpa using hk]
      exact findA_int k l
theorem updA_int (k : Int) (v : AV) : ∀ l : List (Int × AV), igetA k l = none → updA (.int .i64) (.int .i64 k) v (imap l) = some (imap (l ++ [(k, v)]))
  | [], _ => rfl
  | p :: l, hn => by
    have e : imap (p :: l) = (ikey p.1, p.2) :: imap l := rfl
    rw [e]
    simp only [igetA] at hn
    split at hn
    · cases hn
    · rename_i hk
      simp only [updA]
      rw [show Instr.sameNow (.int .i64) (.int .i64 k) (ikey p.1) = some (k == p.1) from rfl, show (k == p.1) = false by simpa using hk, updA_int k v l hn]
      rfl
end Go.Proofs.YthkiabcdkhpheaaDoor.Ab

/-
  The abstract program logic: a slice that will not grow any more; conversions of numbers.
-/
set_option linter.unusedVariables false
set_option linter.unusedSimpArgs false
namespace Go.Proofs.YthkiabcdkhpheaaDoor.Ab

theorem pv_conv (P : Program) (s d : TypeId) {ts : TypeDesc} {kd : IntKind} (hs : P.underlying s = some ts) (hd : P.underlying d = some (.int kd)) (k : IntKind) (a : Int) : pv P (convert s d (.int k a)) = some (.int kd (kd.wrap a)) := by
  have hp : ∀ {α : Type} (x : α), pv P (pure x) = some x := fun _ => rfl
  simp only [convert, underlying]
  rw [pv_bind, pv_bind]
  simp only [program, pv, Option.bind_some, hs, hp]
  rw [pv_bind, pv_bind]
  simp only [program, pv, Option.bind_some, hd, hp]
  rfl

theorem forget {c : Cx} {s : Nat} {xs : List AV} {own : Option Nat} {x : Value} (h : Rel c (.sl s xs own) x) : Rel c (.sl s xs none) x := by
  cases h with
  | slnil _ _ ht => exact .slnil s none fun b hb => by cases hb
  | slzero _ _ ba ht => exact .slzero s none ba fun b hb => by cases hb
  | sl _ _ _ B o cap f hs' hcap hmax hc hr ht => exact .sl s xs none B o cap f hs' hcap hmax hc hr fun b hb => by cases hb

/-- a slice gives up its token -/
theorem codeW_forget {P : Program} {N : Nat} {code : Code} {Q : AExit → AS → Prop} {tm : Nat → AV} {h : AH} (d : Nat) {s : Nat} {xs : List AV} {own : Option Nat} (hd : tm d = .sl s xs own)
    (H : CodeW P N code Q ⟨upd tm d (.sl s xs none), h⟩) : CodeW P N code Q ⟨tm, h⟩ := by
  intro F n base c a hF hst hr R hR
  refine H F n base c a hF hst ⟨hr.h, hr.size, hr.above, hr.defers, hr.round, fun t => ?_⟩ R hR
  simp only [upd]
  split
  · rename_i ht
    subst ht
    have h1 := hr.tm t
    simp only [hd] at h1
    exact forget h1
  · exact hr.tm t
/-- a long region in two pieces -/
theorem opsW_append {P : Program} {N : Nat} {ops : Array Oper} {E : AV → AS → Prop} : ∀ (l1 l2 : List Oper) (K K' : AS → Prop) (s : AS), (∀ s, OpsW P N ops l2 K E s → K' s) → OpsW P N ops l2 K E = K' → OpsW P N ops l1 K' E s → OpsW P N ops (l1 ++ l2) K E s
  | [], l2, K, K', s, _, e, h => by subst e; exact h
  | o :: l1, l2, K, K', s, hK, e, h => by
    subst e
    have ih : OpsW P N ops (l1 ++ l2) K E = OpsW P N ops l1 (OpsW P N ops l2 K E) E := by
      clear h hK s o
      funext s
      apply propext
      induction l1 generalizing s with
      | nil => exact Iff.rfl
      | cons o l1 ih =>
        have ih' : OpsW P N ops (l1 ++ l2) K E = OpsW P N ops l1 (OpsW P N ops l2 K E) E := funext fun s => propext (ih s)
        show (match awanted ops s.tm o with | some true => OpW P N o s (OpsW P N ops (l1 ++ l2) K E) E | some false => OpsW P N ops (l1 ++ l2) K E (AS.put N s o.dst (.v undef)) | none => False) ↔ (match awanted ops s.tm o with | some true => OpW P N o s (OpsW P N ops l1 (OpsW P N ops l2 K E) E) E | some false => OpsW P N ops l1 (OpsW P N ops l2 K E) E (AS.put N s o.dst (.v undef)) | none => False)
        rw [ih']
    show (match awanted ops s.tm o with | some true => OpW P N o s (OpsW P N ops (l1 ++ l2) K E) E | some false => OpsW P N ops (l1 ++ l2) K E (AS.put N s o.dst (.v undef)) | none => False)
    rw [ih]
    exact h
theorem opsW_take {P : Program} {N : Nat} {ops : Array Oper} {E : AV → AS → Prop} {l : List Oper} {K : AS → Prop} {s : AS} (k : Nat) (h : ∀ K' : AS → Prop, (∀ s, OpsW P N ops (l.drop k) K E s → K' s) → OpsW P N ops (l.take k) K' E s) : OpsW P N ops l K E s := by
  have := opsW_append (l.take k) (l.drop k) K _ s (fun s hs => hs) rfl (h _ fun s hs => hs)
  rwa [List.take_append_drop] at this

/-- to go on from what is known -/
theorem codeW_gen {P : Program} {N : Nat} {code : Code} {Q : AExit → AS → Prop} (I : AS → Prop) {s : AS} (h : ∀ s, I s → CodeW P N code Q s) (h0 : I s) : CodeW P N code Q s := h s h0
end Go.Proofs.YthkiabcdkhpheaaDoor.Ab

/-
  The abstract program logic: blocks that a piece of code has laid are let go behind it.
-/
set_option linter.unusedVariables false
namespace Go.Proofs.YthkiabcdkhpheaaDoor.Ab

theorem DefOk.cut {c : Cx} {base : Bs} {m : Nat} {ds : List Deferred} (h : DefOk c base ds) : DefOk (c.cut m) base ds := by
  obtain ⟨Ds, e, hn, hall⟩ := h
  refine ⟨Ds, e, hn, fun D hD => ?_⟩
  obtain ⟨h1, h2, h3⟩ := hall D hD
  exact ⟨h1, h2, fun ⟨id, b, g1, g2, g3⟩ => h3 ⟨id, b, (cut_get g1).2, g2, g3⟩⟩

/-- behind the code its own blocks are let go; what they hold stays as it is -/
theorem codeW_letgo {P : Program} {N : Nat} {x : Code} {Q : AExit → AS → Prop} {tm : Nat → AV} {h : AH}
    (H : (∀ t, Below h.length (tm t)) → CodeW P N x (fun e s => ∃ tm', h.length ≤ s.h.length ∧ s.h.take h.length = h ∧ (∀ t, Frz s.h h.length (s.tm t) (tm' t)) ∧ (∀ a, e ≠ .panic a) ∧ Q e ⟨tm', h⟩) ⟨tm, h⟩) : CodeW P N x Q ⟨tm, h⟩ := by
  intro F n base c a hF hst hr R hR
  have hh : c.h = h := hr.h
  subst hh
  refine H (fun t => (hr.tm t).ids) F n base c a hF hst hr R fun e s' c' a' e' hq h1 h2 h3 h4 => ?_
  obtain ⟨tm', g1, g2, g3, g4, g5⟩ := hq
  rw [← h3.h] at g1 g2 g3
  have hst' : St (c'.cut c.h.length) := h2.cut g1 fun b hb => by
    rw [g2] at hb
    obtain ⟨j, hj⟩ := mem_get hb
    exact hst.below hj
  have hev := h1.cut (Nat.le_refl _) g1
  refine hR e ⟨tm', c.h⟩ (c'.cut c.h.length) a' e' g5 hev hst' ⟨g2, h3.size, h3.above, h3.defers.cut, RoundOk.ev hev hr.round, fun t => (g3 t).rel h2 g1 (h3.tm t)⟩ ?_
  cases e with
  | panic a => exact absurd rfl (g4 a)
  | normal => exact h4
  | ret => exact h4
  | exit k => exact h4
theorem frz_upd {h : AH} {m : Nat} {tm tm' : Nat → AV} {d : Nat} {x y : AV} (H : ∀ t, Frz h m (tm t) (tm' t)) (hx : Frz h m x y) : ∀ t, Frz h m (upd tm d x t) (upd tm' d y t) := by
  intro t
  simp only [upd]
  split
  · exact hx
  · exact H t
theorem frz_same {h : AH} {m : Nat} {tm : Nat → AV} (hB : ∀ t, Below m (tm t)) : ∀ t, Frz h m (tm t) (tm t) := fun t => .keep (hB t)
end Go.Proofs.YthkiabcdkhpheaaDoor.Ab

/-
  The abstract program logic: scopes; a block of cells is given up; rows of unknown room; slices.overlaps.
-/
set_option linter.unusedVariables false
namespace Go.Proofs.YthkiabcdkhpheaaDoor.Ab

/-! ### scopes without a jump -/

theorem stepR_scope {P : Program} {b : Frame} {a : Act} {k : List Item} {cs : List Frame} {w : World} {c : Code} :
    step P (lone (b.atR a (.code (.scope c) :: k)) cs w) = .next (lone (b.atR a (.code c :: .inScope c :: k)) cs w) :=
  step_lone_go (by simp [stepG, stepG.exec, Frame.atR])
theorem stepR_inScope {P : Program} {b : Frame} {a : Act} {k : List Item} {cs : List Frame} {w : World} {c : Code} :
    step P (lone (b.atR a (.inScope c :: k)) cs w) = .next (lone (b.atR a k) cs w) :=
  step_lone_go (by simp [stepG, stepG.exec, Frame.atR])

def noGotoR (Q : Exit → Act → World → Prop) : Exit → Act → World → Prop
  | .goto _, _, _ => False
  | e, a, w => Q e a w

theorem wpIn_scope {F : Fence} {n : Nat} {P : Program} {Q : Exit → Act → World → Prop} {a : Act} {w : World} {c : Code} (h : c.wpIn F n P (noGotoR Q) a w) : (Code.scope c).wpIn F n P Q a w := by
  intro b k cs hro hb hr
  have h0 : (lone (b.atR a (.code (.scope c) :: k)) cs w).fenced P F := fenced_calm hb hr rfl
  obtain ⟨e, a₁, w₁, hq, harr⟩ := h b (.inScope c :: k) cs hro hb hr
  cases e with
  | normal => exact ⟨.normal, a₁, w₁, hq, .head h0 stepR_scope (StepsIn.trans harr (.one (fenced_calm hb hr rfl) stepR_inScope))⟩
  | exit id' =>
    have hx : exitTo id' (.inScope c :: k) = exitTo id' k := by simp [exitTo]
    exact ⟨.exit id', a₁, w₁, hq, fun k' hk => .head h0 stepR_scope (harr.1 k' (by rw [hx]; exact hk)),
      fun hr' hk => let ⟨k₁, h1, h2⟩ := harr.2 hr' (by rw [hx]; exact hk); ⟨k₁, h1, .head h0 stepR_scope h2⟩⟩
  | goto l => exact hq.elim
  | ret => exact ⟨_, a₁, w₁, hq, .of_steps (.one h0 stepR_scope) harr⟩
  | panic ch => exact ⟨_, a₁, w₁, hq, .of_steps (.one h0 stepR_scope) harr⟩
  | outgrown => exact ⟨_, a₁, w₁, hq, .of_steps (.one h0 stepR_scope) harr⟩

theorem codeW_scope {P : Program} {N : Nat} {x : Code} {Q : AExit → AS → Prop} {s : AS} (h : CodeW P N x Q s) : CodeW P N (.scope x) Q s := by
  intro F n base c a hF hs hr R hR
  refine wpIn_scope (h F n base c a hF hs hr _ fun e s' c' a' e' hQ hev hst hsr hex => ?_)
  cases e with
  | normal => cases hex; exact hR _ s' c' a' _ hQ hev hst hsr rfl
  | exit i => cases hex; exact hR _ s' c' a' _ hQ hev hst hsr rfl
  | ret => cases hex; exact hR _ s' c' a' _ hQ hev hst hsr rfl
  | panic av => obtain ⟨x, rfl, hx⟩ := hex; exact hR _ s' c' a' _ hQ hev hst hsr ⟨x, rfl, hx⟩

/-! ### a block of cells is given up: what it holds stays as it is -/

/-- what a value becomes -/
inductive Kill (h : AH) (id : Nat) : AV → AV → Prop
  | keep (a : AV) : Kill h id a a
  | arr {lo len s : Nat} {ty : TypeId} {xs : List AV} (hg : h[id]? = some (.cells ty s xs)) (hl : lo + len ≤ xs.length) : Kill h id (.arr id lo len) (.sl s ((xs.drop lo).take len) none)
  | row {lo len cap s : Nat} {ty : TypeId} {xs : List AV} (hg : h[id]? = some (.cells ty s xs)) (hl : lo + len ≤ xs.length) : Kill h id (.row id lo len cap) (.sl s ((xs.drop lo).take len) none)

def Cx.kill (c : Cx) (id : Nat) : Cx := { c with h := c.h.set id .dead }

theorem kill_get {c : Cx} {id i : Nat} {b : AB} (h : (c.kill id).h[i]? = some b) : (i = id ∧ b = .dead) ∨ (i ≠ id ∧ c.h[i]? = some b) := by
  simp only [Cx.kill] at h
  by_cases hi : i = id
  · subst hi
    have hlt := lt_of_get h
    rw [List.getElem?_set_self (by simpa using hlt)] at h
    cases h
    exact .inl ⟨rfl, rfl⟩
  · rw [List.getElem?_set_ne (fun e => hi e.symm)] at h
    exact .inr ⟨hi, h⟩

theorem Ev.kill {c : Cx} {id : Nat} {ty s : Nat} {xs : List AV} (hb : c.h[id]? = some (.cells ty s xs)) : Ev c (c.kill id) := by
  refine ⟨rfl, rfl, rfl, Nat.le_refl _, by simp [Cx.kill], fun _ _ _ => rfl, fun i b hi => ?_, fun i B b h1 h2 => by have := lt_of_get h2; simp [Cx.kill] at this; omega⟩
  by_cases h : i = id
  · subst h
    rw [hb] at hi; cases hi
    exact ⟨.dead, by simp [Cx.kill, lt_of_get hb], .inl rfl⟩
  · refine ⟨b, by simp only [Cx.kill]; rw [List.getElem?_set_ne (fun e => h e.symm)]; exact hi, ?_⟩
    have := Kin.refl c i b
    cases b <;> exact this

theorem St.kill {c : Cx} (hs : St c) {id : Nat} {ty s : Nat} {xs : List AV} (hb : c.h[id]? = some (.cells ty s xs)) : St (c.kill id) := by
  refine ⟨fun i b hi => ?_, fun i j a b B hi hj hla hlb hρi hρj => ?_⟩
  · rcases kill_get hi with ⟨rfl, rfl⟩ | ⟨_, h⟩
    · trivial
    · exact (hs.blocks i b h).ev hs (Ev.kill hb) rfl (fun _ _ _ => rfl)
  · rcases kill_get hi with ⟨_, rfl⟩ | ⟨_, h1⟩
    · cases hla
    rcases kill_get hj with ⟨_, rfl⟩ | ⟨_, h2⟩
    · cases hlb
    exact hs.inj i j a b B h1 h2 hla hlb hρi hρj

theorem rel_row_kill {c : Cx} (hs : St c) {id B ty s : Nat} {xs : List AV} (hg : c.h[id]? = some (.cells ty s xs)) (hρ : c.ρ id = some B) :
    (∀ x ∈ xs, x.cells.length = s) ∧ ∃ f : Nat → Value, ∀ (j : Nat) a, (flat xs)[j]? = some a → ((c.kill id).cellP B (0 + j) (f j) ∧ (f j).oneCell' = true) ∧ Rel (c.kill id) a (f j) := by
  obtain ⟨B', cur, h1, h2, h3, h4⟩ := hs.blocks id _ hg
  rw [hρ] at h1; cases h1
  refine ⟨h3, fun j => cur.getD j undef, fun j a hj => ?_⟩
  obtain ⟨u, h5, h6, h7⟩ := h4 j a hj
  have e : cur.getD j undef = u := by rw [Array.getD_eq_getD_getElem?, h5]; rfl
  show ((c.kill id).cellP B (0 + j) (cur.getD j undef) ∧ (cur.getD j undef).oneCell' = true) ∧ Rel (c.kill id) a (cur.getD j undef)
  rw [e]
  refine ⟨⟨⟨by show c.w.cell? _ = _; rw [Nat.zero_add, cell_cells h2]; exact h5, ?_⟩, h6⟩, h7.ev hs (Ev.kill hg)⟩
  refine ⟨hs.lt hg rfl hρ, fun id' b' hb' hl' hρ' => ?_⟩
  rcases kill_get hb' with ⟨rfl, rfl⟩ | ⟨hne, hb''⟩
  · cases hl'
  · exact absurd (hs.inj id' id b' _ B hb'' hg hl' rfl hρ' hρ) hne

theorem sl_of_row_kill {c : Cx} (hs : St c) {id B ty s lo len cap : Nat} {xs : List AV} (hg : c.h[id]? = some (.cells ty s xs)) (hρ : c.ρ id = some B) (hl : lo + len ≤ xs.length) (h2 : len ≤ cap) (h3 : cap ≤ maxLen) :
    Rel (c.kill id) (.sl s ((xs.drop lo).take len) none) (.slice (some ⟨B, lo * s, none⟩) len cap) := by
  obtain ⟨h4, f, h5⟩ := rel_row_kill hs hg hρ
  have hlen : ((xs.drop lo).take len).length = len := by simp; omega
  have hdrop : ∀ y ∈ xs.drop lo, y.cells.length = s := fun y hy => h4 y (List.mem_of_mem_drop hy)
  have hget : ∀ (j : Nat) a, (flat ((xs.drop lo).take len))[j]? = some a → (flat xs)[lo * s + j]? = some a := by
    intro j a hj
    rw [flat_take hdrop (by simp; omega)] at hj
    have hlt := lt_of_get hj
    rw [List.length_take] at hlt
    rw [List.getElem?_take_of_lt (by omega), flat_drop h4 (by omega), List.getElem?_drop] at hj
    exact hj
  have := Rel.sl (c := c.kill id) s ((xs.drop lo).take len) none B (lo * s) cap (fun j => f (lo * s + j)) (fun y hy => hdrop y (List.mem_of_mem_take hy)) (by omega) h3
    (fun j a hj => by have := (h5 _ a (hget j a hj)).1; rwa [Nat.zero_add] at this) (fun j a hj => (h5 _ a (hget j a hj)).2) (fun b hb => by cases hb)
  rwa [hlen] at this

theorem Kill.rel {c : Cx} (hs : St c) {id ty s : Nat} {xs : List AV} (hb : c.h[id]? = some (.cells ty s xs)) {a a' : AV} (h : Kill c.h id a a') {x : Value} (hr : Rel c a x) : Rel (c.kill id) a' x := by
  cases h with
  | keep => exact hr.ev hs (Ev.kill hb)
  | arr hg hl =>
    cases hr with
    | arr _ _ _ x hid ho h1 =>
      obtain ⟨B, cap, hρ, rfl, h2, h3, _⟩ := h1 _ _ _ hg
      exact sl_of_row_kill hs hg hρ hl h2 h3
  | row hg hl =>
    cases hr with
    | row _ _ _ _ x hid ho h1 =>
      obtain ⟨B, cur, hρ, rfl, h2, h3, _⟩ := h1 _ _ _ hg
      exact sl_of_row_kill hs hg hρ hl h2 h3

theorem codeW_kill {P : Program} {N : Nat} {x : Code} {Q : AExit → AS → Prop} {tm : Nat → AV} {h : AH} (id d : Nat) {ty s : Nat} {xs : List AV} (hb : h[id]? = some (.cells ty s xs)) {r : AV} (hk : Kill h id (tm d) r)
    (H : CodeW P N x Q ⟨upd tm d r, h.set id .dead⟩) : CodeW P N x Q ⟨tm, h⟩ := by
  intro F n base c a hF hst hr R hR
  have hh : c.h = h := hr.h
  subst hh
  have hev := Ev.kill hb
  have hst2 := hst.kill hb
  refine H F n base (c.kill id) a hF hst2 ⟨rfl, hr.size, hr.above, hr.defers.ev hev, RoundOk.ev hev hr.round, fun t => ?_⟩ R fun e' s' c' a' ex hq h1 h2 h3 h4 => hR e' s' c' a' ex hq (Ev.trans hst hev h1) h2 h3 h4
  show Rel (c.kill id) (if t = d then r else tm t) _
  split
  · rename_i ht
    subst ht
    exact hk.rel hst hb (hr.tm t)
  · exact (hr.tm t).ev hst hev

/-! ### a row of unknown room as first argument -/

theorem callW_row {P : Program} {f : FuncId} {args : List AV} {h : AH} {Q : AOut → AH → Prop} {id lo len ty s : Nat} {xs : List AV} (hb : h[id]? = some (.cells ty s xs))
    (H : ∀ cap, len ≤ cap → cap ≤ maxLen → CallW P f (.row id lo len cap :: args) h Q) (h0 : len ≤ maxLen) : CallW P f (.arr id lo len :: args) h Q := by
  refine ⟨(H len (Nat.le_refl _) h0).1, fun F n c vals hF hst hh hvals => ?_⟩
  subst hh
  obtain ⟨u, hu⟩ := get_of_size hvals.1 (show 0 < (AV.arr id lo len :: args).length by simp)
  have hr := hvals.2 0 _ u rfl hu
  cases hr with
  | arr _ _ _ x hid ho h1 =>
    obtain ⟨B, cap, hρ, rfl, h2, h3, cur, h4, h5⟩ := h1 _ _ _ hb
    refine (H cap h2 h3).2 F n c vals hF hst rfl ⟨hvals.1, fun j a v ha hv => ?_⟩
    cases j with
    | zero =>
      rw [hu] at hv; cases hv
      simp only [List.getElem?_cons_zero, Option.some.injEq] at ha
      subst ha
      refine .row id lo len cap _ hid rfl fun ty' s' xs' hb' => ?_
      rw [hb] at hb'; cases hb'
      exact ⟨B, cur, hρ, rfl, h2, h3, h4, h5⟩
    | succ j => exact hvals.2 (j + 1) a v (by simpa using ha) hv

/-! ### slices.overlaps: a slice that is no part of a row of one's own -/

theorem run_overlaps_cells {P : Program} (w : World) (tS tR e : TypeId) (ht : P.underlying tS = some (.slice e)) (size : Nat) (hz : ∀ w, (Go.sizeOf e).run P w = .ok size w) (a b : Addr) (la ca lb cb : Nat)
    (h : la = 0 ∨ lb = 0 ∨ (a.block ≠ b.block ∧ (∃ x tA fA, w.heap[a.block]? = some (.cells x tA fA) ∧ x.size ≠ 0) ∧ ∃ x tB, w.heap[b.block]? = some (.cells x tB (0, 0)))) :
    (Extern.SlicesOverlaps.overlaps #[tS, tS] #[tR] #[.slice (some a) la ca, .slice (some b) lb cb]).run P w = .ok (.bool false) w := by
  change Sem.run P (α := Value) (do
    let some t := (#[tS, tS] : Array TypeId)[0]? | stuck "slices.overlaps: no parameter types"
    let .slice elem ← underlying t | stuck "slices.overlaps: slice type expected"
    let size ← sizeOf elem
    match (some a : Option Addr), (some b : Option Addr) with
    | some a, some b =>
      if la = 0 ∨ lb = 0 ∨ size = 0 then pure (Value.bool false)
      else if a.block != b.block && (← frozen a) && (← frozen b) then unsupported .addressObserved
      else do
        if a.block != b.block then do
          noView a; noView b
          if ← mayBeOne a b then return Value.bool ((← choose (.extern "sameAddr.stringBytes" 2)) == 1)
        pure (Value.bool (a.block == b.block && a.off < b.off + lb * size && b.off < a.off + la * size))
    | _, _ => pure (Value.bool false)) w = _
  by_cases h0 : la = 0 ∨ lb = 0 ∨ size = 0
  · simp [run_underlying ht, hz, h0]
  · obtain ⟨hne, ⟨x, tA, fA, hA, hx⟩, y, tB, hB⟩ := h.resolve_left (fun e => h0 (.inl e)) |>.resolve_left (fun e => h0 (.inr (.inl e)))
    have hnb : (a.block != b.block) = true := by simpa using hne
    have hnb' : (a.block == b.block) = false := by simpa using hne
    have hsa : w.shape? a.block = some (tA, x.size) := by simp [World.shape?, hA]
    have hsb : w.shape? b.block = some (tB, y.size) := by simp [World.shape?, hB]
    have hfb : w.frozen? b = false := by simp [World.frozen?, hB]
    have hfe : w.frozen? { block := b.block, off := y.size } = false := by simp [World.frozen?, hB]
    cases hk : x.size with
    | zero => exact absurd hk hx
    | succ k =>
      rw [hk] at hsa
      cases hfa : w.frozen? a <;> cases hfc : w.frozen? { block := a.block, off := k + 1 } <;>
        simp [run_underlying ht, hz, h0, hnb, hnb', frozen, noView, viewAt, mayBeOne, stringish, shape, Sem.run, hsa, hsb, hfa, hfb, hfe, hfc]

theorem funW_overlaps {P : Program} {f : FuncId} {fn : Func} {tS tR e : TypeId} (hf : P.funcs[f]? = some fn) (hname : (fn.name == "runtime.NumGoroutine") = false) (hbn : fn.body.isNone = true) (hn : Extern.findNext fn = none)
    (he : Extern.find fn = some (Extern.SlicesOverlaps.overlaps #[tS, tS] #[tR])) {size : Nat} (hel : elemInfo P tS = some (e, size)) {s id lo len cap ty s' : Nat} {ys xs : List AV} {own : Option Nat} {h : AH} (hb : h[id]? = some (.cells ty s' xs)) (hs0 : 0 < s) (hc : ∀ y ∈ ys, y.cells.length = s) :
    FunW P (.fn (.func f) [] []) [.sl s ys own, .row id lo len cap] h fun o h' => o = .ret (.v (.bool false)) ∧ h' = h := by
  intro F n c v vals hF hst hh hv hvs o a next Qx h1 h2
  subst hh
  obtain ⟨hu, hz⟩ := elemInfo_run hel
  cases hv with
  | fn _ _ _ vs ws e1 e2 hv1 hv2 =>
    have hvs0 : vs = #[] := Array.eq_empty_of_size_eq_zero e1
    have hws0 : ws = #[] := Array.eq_empty_of_size_eq_zero e2
    subst hvs0; subst hws0
    obtain ⟨x, hx⟩ := get_of_size hvs.1 (show 0 < [AV.sl s ys own, .row id lo len cap].length by simp)
    obtain ⟨y, hy⟩ := get_of_size hvs.1 (show 1 < [AV.sl s ys own, .row id lo len cap].length by simp)
    have hvals : vals = #[x, y] := by
      apply Array.ext'
      have hl : vals.toList.length = 2 := by simpa using hvs.1
      apply List.ext_getElem?
      intro j
      match j with
      | 0 => simpa using hx
      | 1 => simpa using hy
      | j + 2 => rw [List.getElem?_eq_none (by omega)]; simp
    have hrx := hvs.2 0 _ x rfl hx
    have hry := hvs.2 1 _ y rfl hy
    subst hvals
    cases hry with
    | row _ _ _ _ y hid ho g =>
      obtain ⟨B, cur, hρ, rfl, g2, g3, g4, g5⟩ := g _ _ _ hb
      have fin : (Extern.SlicesOverlaps.overlaps #[tS, tS] #[tR] #[x, .slice (some ⟨B, lo * s', none⟩) len cap]).run P c.w = .ok (.bool false) c.w := by
        have nil : ∀ b, (Extern.SlicesOverlaps.overlaps #[tS, tS] #[tR] #[.slice none 0 0, .slice (some b) len cap]).run P c.w = .ok (.bool false) c.w := by
          intro b
          change Sem.run P (α := Value) (do
            let some t := (#[tS, tS] : Array TypeId)[0]? | stuck "slices.overlaps: no parameter types"
            let .slice elem ← underlying t | stuck "slices.overlaps: slice type expected"
            let size ← sizeOf elem
            pure (Value.bool false)) c.w = _
          simp [run_underlying hu, hz]
        cases hrx with
        | slnil _ _ ht => exact nil _
        | slzero _ _ ba ht => exact run_overlaps_cells _ tS tR e hu size hz _ _ _ _ _ _ (.inl rfl)
        | sl _ _ _ B' o' cap' f' hs' hcap hmax hc' hr' ht =>
          refine run_overlaps_cells _ tS tR e hu size hz _ _ _ _ _ _ ?_
          cases ys with
          | nil => exact .inl rfl
          | cons y0 ys =>
            refine .inr (.inr ?_)
            have h0 : 0 < (flat (y0 :: ys)).length := by rw [flat_cons, List.length_append, hc y0 (by simp)]; omega
            obtain ⟨q, hq⟩ : ∃ q, (flat (y0 :: ys))[0]? = some q := ⟨_, List.getElem?_eq_getElem h0⟩
            obtain ⟨⟨k1, k2⟩, _⟩ := hc' 0 q hq
            refine ⟨fun heq => ?_, ?_, cur, ty, g4⟩
            · obtain ⟨_, _, _, he', _⟩ := k2.2 id _ hb rfl (hρ.trans (by rw [show B' = B from heq]))
              cases he'
            · rw [World.cell?] at k1
              split at k1
              · rename_i cells tA fA hA
                simp only [Option.isSome_none, Bool.false_eq_true, if_false] at k1
                exact ⟨cells, tA, fA, hA, by have := (Array.getElem?_eq_some_iff.1 k1).1; omega⟩
              · cases k1
      have hcall := run_callFunc_extern (P := P) hf hname hbn hn he #[x, .slice (some ⟨B, lo * s', none⟩) len cap] c.w
      rw [fin] at hcall
      simp only [Deferred.ofValue, Sem.run_bind, Sem.run_pure, Result.andThen_ok, invoke, Array.empty_append, Array.append_empty, hcall]
      exact h1 _ c _ ⟨rfl, rfl⟩ (Ev.refl c) hst (.v _)

/-! ### a nil slice as one to which a row of its own is appended; halves -/

theorem codeW_tokenD {P : Program} {N : Nat} {code : Code} {Q : AExit → AS → Prop} {tm : Nat → AV} {h : AH} (d s : Nat) (hd : tm d = .v (.slice none 0 0))
    (H : CodeW P N code Q ⟨upd tm d (.sl s [] (some h.length)), h ++ [.dead]⟩) : CodeW P N code Q ⟨tm, h⟩ := by
  intro F n base c a hF hst hr R hR
  have hh : c.h = h := hr.h
  subst hh
  have hg := Grows.refl c.w
  have ho : ∀ B, (none : Option Nat) = some B → c.w.heap.size ≤ B := fun B h => by cases h
  have hev := Ev.add hst hg .dead none ho
  have hst' : St (c.add c.w .dead none) := St.add hst hg _ _ ho trivial
  refine H F n base (c.add c.w .dead none) a hF hst' ⟨rfl, hr.size, hr.above, hr.defers.ev hev, RoundOk.ev hev hr.round, fun t => ?_⟩ R fun e' s' c' a' ex hq h1 h2 h3 h4 => hR e' s' c' a' ex hq (Ev.trans hst hev h1) h2 h3 h4
  simp only [upd]
  split
  · rename_i ht
    subst ht
    have h1 := hr.tm t
    simp only [hd] at h1
    generalize hu : a.tmps.getD t undef = u at h1
    cases h1
    refine .slnil _ _ fun b hb => ?_
    cases hb
    exact ⟨by simp [Cx.add], fun e s' n hg => by simp [Cx.add] at hg⟩
  · exact (hr.tm t).ev hst hev

theorem pv_shr1 (P : Program) (t : TypeId) (xo yo : Operand) (k q : IntKind) (a : Int) : pv P (do eqGuard .shr t xo yo (.int k a) (.int q 1); binOp .shr t (.int k a) (.int q 1)) = some (.int k (a.fdiv 2)) := by
  cases k <;> rfl

theorem callW_kill {P : Program} {f : FuncId} {args : List AV} {h h2 : AH} {id : Nat} {r2 : AV} (H : CallW P f args h fun o h' => ∃ r ty s xs, o = .ret r ∧ h'[id]? = some (.cells ty s xs) ∧ Kill h' id r r2 ∧ h2 = h'.set id .dead) :
    CallW P f args h fun o h' => o = .ret r2 ∧ h' = h2 := by
  refine ⟨H.1, fun F n c vals hF hst hh hvals => (H.2 F n c vals hF hst hh hvals).mono ?_⟩
  rintro e w ⟨o, c', ⟨r, ty, s, xs, rfl, hb, hk, rfl⟩, hev, hst', rfl, x, rfl, hx⟩
  exact ⟨.ret r2, c'.kill id, ⟨rfl, rfl⟩, Ev.trans hst hev (Ev.kill hb), hst'.kill hb, rfl, x, rfl, hk.rel hst' hb hx⟩

/-! ### append of zeros, out of what the kernel says of the type -/
def infoOk (P : Program) (t : TypeId) (n b : Nat) : Bool := match P.info? t with
  | some i => match i.zero with
    | some z => i.size == n && i.bytes == b && z.cells.size == n && (AV.ofV z).cells1 && (AV.ofV z).cells.length == n
    | none => false
  | none => false

theorem aAppendZ_eq {P : Program} {t t' e : TypeId} {q : IntKind} {id len cap n b k : Nat} {h : AH} {xs : List AV} (ht : P.underlying t = some (.slice e)) (ht' : P.underlying t' = some (.int q)) (hi : infoOk P e n b = true) (hb : h[id]? = some (.cells e n xs))
    (hn : 0 < n) (hl : len ≤ xs.length) (hk : 0 < k) (hc : cap < len + k) (hm : len + k ≤ maxLen) (hby : (len + k) * b ≤ 140737488355328) :
    aAppendZ P t t' (.row id 0 len cap) (k : Int) h = some (.arr h.length 0 (len + k), h ++ [.cells e n (xs.take len ++ blanks n k)]) := by
  unfold infoOk at hi
  split at hi
  · rename_i i hi1
    split at hi
    · rename_i z hz
      simp only [Bool.and_eq_true, beq_iff_eq] at hi
      obtain ⟨⟨⟨⟨h1, h2⟩, h3⟩, h4⟩, h5⟩ := hi
      subst h1; subst h2
      unfold aAppendZ
      simp only [ht, ht', hb, hi1, hz, Int.toNat_natCast]
      exact if_pos ⟨by trivial, by trivial, hn, h3, h4, h5, by trivial, hl, by omega, hc, hm, hby⟩
    · cases hi
  · cases hi

end Go.Proofs.YthkiabcdkhpheaaDoor.Ab

/-
  The data of the program as plain Lean data, and as abstract values; how a function is said to compute.
-/
set_option linter.unusedVariables false
namespace Go.Proofs.YthkiabcdkhpheaaDoor.Ab

/-- a term: kind, number, name, arguments -/
inductive T where
  | mk (kind int : Int) (name : ByteArray) (args : List T)
  deriving Inhabited

def T.kind : T → Int | .mk k _ _ _ => k
def T.int : T → Int | .mk _ i _ _ => i
def T.name : T → ByteArray | .mk _ _ n _ => n
def T.args : T → List T | .mk _ _ _ l => l

mutual
def T.av : T → AV
  | .mk k i n l => .agg [.v (.int .i64 k), .v (.int .i64 i), .v (.string n), .sl 4 (avs l) none]
def avs : List T → List AV
  | [] => []
  | t :: l => t.av :: avs l
end

theorem avs_map : ∀ l : List T, avs l = l.map T.av
  | [] => rfl
  | t :: l => by simp only [avs, List.map_cons, avs_map l]
theorem avs_nil : avs [] = [] := rfl
theorem avs_length (l : List T) : (avs l).length = l.length := by rw [avs_map, List.length_map]
theorem avs_append (l m : List T) : avs (l ++ m) = avs l ++ avs m := by simp only [avs_map, List.map_append]
theorem avs_one (t : T) : avs [t] = [t.av] := rfl
theorem avs_get {l : List T} {k : Nat} (h : k < l.length) : (avs l)[k]? = some (l[k]).av := by
  rw [avs_map, List.getElem?_map, List.getElem?_eq_getElem h]; rfl
theorem avs_take (l : List T) (k : Nat) : (avs l).take k = avs (l.take k) := by simp only [avs_map, List.map_take]
theorem avs_drop (l : List T) (k : Nat) : (avs l).drop k = avs (l.drop k) := by simp only [avs_map, List.map_drop]

theorem T.av_cells (t : T) : t.av.cells = [.v (.int .i64 t.kind), .v (.int .i64 t.int), .v (.string t.name), .sl 4 (avs t.args) none] := by cases t; rfl
theorem T.av_isAgg (t : T) : t.av.isAgg = true := by cases t; rfl
theorem T.av_cells1 (t : T) : t.av.cells1 = true := by cases t; rfl
theorem T.av_fold (k i : Int) (n : ByteArray) (l : List T) : AV.agg [.v (.int .i64 k), .v (.int .i64 i), .v (.string n), .sl 4 (avs l) none] = (T.mk k i n l).av := by simp only [T.av]
theorem T.av_fold0 (k i : Int) (n : ByteArray) : AV.agg [.v (.int .i64 k), .v (.int .i64 i), .v (.string n), .sl 4 [] none] = (T.mk k i n []).av := by simp only [T.av, avs]

mutual
theorem T.av_below (n : Nat) : ∀ t : T, Below n t.av
  | .mk k i nm l => by
    simp only [T.av]
    refine .agg _ fun a ha => ?_
    simp only [List.mem_cons, List.not_mem_nil, or_false] at ha
    rcases ha with rfl | rfl | rfl | rfl
    · exact .v _
    · exact .v _
    · exact .v _
    · exact .sl 4 _ none (avs_flat n l) (fun b hb => by cases hb)
theorem avs_flat (n : Nat) : ∀ l : List T, ∀ a ∈ flat (avs l), Below n a
  | [], a, ha => by simp [avs, flat] at ha
  | t :: l, a, ha => by
    simp only [avs, flat_cons, List.mem_append] at ha
    rcases ha with ha | ha
    · have h1 := T.av_below n t
      cases t with
      | mk k i nm l' =>
        simp only [T.av] at h1
        cases h1 with
        | agg _ h => exact h a (by simpa only [T.av, AV.cells] using ha)
    · exact avs_flat n l a ha
end

theorem avs_below (n : Nat) (l : List T) : Below n (.sl 4 (avs l) none) := .sl 4 _ none (avs_flat n l) (fun b hb => by cases hb)

/-- numbers -/
def ints (l : List Int) : List AV := l.map fun n => .v (.int .i64 n)
theorem ints_length (l : List Int) : (ints l).length = l.length := List.length_map _
theorem ints_nil : ints [] = [] := rfl
theorem ints_one (n : Int) : ints [n] = [.v (.int .i64 n)] := rfl
theorem ints_append (l m : List Int) : ints (l ++ m) = ints l ++ ints m := List.map_append
theorem ints_get {l : List Int} {k : Nat} (h : k < l.length) : (ints l)[k]? = some (.v (.int .i64 l[k])) := by
  rw [ints, List.getElem?_map, List.getElem?_eq_getElem h]; rfl
theorem ints_flat (n : Nat) (l : List Int) : ∀ a ∈ flat (ints l), Below n a := by
  intro a ha
  simp only [flat, ints, List.mem_flatMap, List.mem_map] at ha
  obtain ⟨x, ⟨y, _, rfl⟩, hx⟩ := ha
  simp only [AV.cells, List.mem_singleton] at hx
  subst hx
  exact .v _
theorem ints_below (n : Nat) (l : List Int) : Below n (.sl 1 (ints l) none) := .sl 1 _ none (ints_flat n l) (fun b hb => by cases hb)

theorem rng0 : List.range 0 = [] := rfl
theorem rng1 : List.range 1 = [0] := rfl
theorem rng2 : List.range 2 = [0, 1] := rfl
theorem rng3 : List.range 3 = [0, 1, 2] := rfl
theorem rng4 : List.range 4 = [0, 1, 2, 3] := rfl
theorem rng5 : List.range 5 = [0, 1, 2, 3, 4] := rfl
theorem rng6 : List.range 6 = [0, 1, 2, 3, 4, 5] := rfl
theorem rng7 : List.range 7 = [0, 1, 2, 3, 4, 5, 6] := rfl
theorem rng8 : List.range 8 = [0, 1, 2, 3, 4, 5, 6, 7] := rfl
theorem any_some' {α : Type} (p : α → Bool) (x : α) : Option.any p (some x) = p x := rfl

/-! ### how a function computes -/

/-- it hands back r and leaves the heap as it was -/
def Pure (P : Program) (f : FuncId) (args : List AV) (r : AV) : Prop := ∀ h, CallW P f args h fun o h' => o = .ret r ∧ h' = h

theorem funW_pure {P : Program} {f : FuncId} {args : List AV} {r : AV} {h : AH} {C : AOut → AH → Prop} (H : Pure P f args r) (k : C (.ret r) h) : FunW P (.fn (.func f) [] []) args h C := by
  refine FunW.fn ?_
  rw [List.nil_append, List.append_nil]
  exact (H h).mono (by rintro _ _ ⟨rfl, rfl⟩; exact k)

theorem funW_cl {P : Program} {f : FuncId} {args cap : List AV} {r : AV} {h : AH} {C : AOut → AH → Prop} (H : Pure P f (args ++ cap) r) (k : C (.ret r) h) : FunW P (.fn (.func f) [] cap) args h C := by
  refine FunW.fn ?_
  rw [List.nil_append]
  exact (H h).mono (by rintro _ _ ⟨rfl, rfl⟩; exact k)

theorem callA_pure {P : Program} {N : Nat} {f : FuncId} {args : List AV} {r : AV} {s : AS} {d : Option Tmp} {K : AS → Prop} (H : Pure P f args r) (k : K (AS.put N s d r)) : CallA P N (.fn (.func f) [] []) args s d K :=
  ⟨r, fun hx => funW_pure H ⟨rfl, rfl⟩, k⟩

theorem callA_cl {P : Program} {N : Nat} {f : FuncId} {args cap : List AV} {r : AV} {s : AS} {d : Option Tmp} {K : AS → Prop} (H : Pure P f (args ++ cap) r) (k : K (AS.put N s d r)) : CallA P N (.fn (.func f) [] cap) args s d K :=
  ⟨r, fun hx => funW_cl H ⟨rfl, rfl⟩, k⟩

theorem rowGrow {N e n : Nat} {s : AS} {d : Option Tmp} {K : AS → Prop} (k : K (AS.put N { s with h := s.h ++ [.grow e n 0] } d (.sl n [] (some s.h.length)))) : RowW N e n s d K := .inl k
theorem rowOwn {N e n : Nat} {s : AS} {d : Option Tmp} {K : AS → Prop} (k : K (AS.put N { s with h := s.h ++ [.dead] } d (.sl n [] (some s.h.length)))) : RowW N e n s d K := .inr k

theorem leaves_end {h h' : AH} {r r' : AV} {Q : AV → AH → Prop} (ht : h'.take h.length = h) (hf : Frz h' h.length r r') (hq : Q r' h) : Leaves h h' r Q := by
  refine .inl ⟨h.length, r', Nat.le_refl _, ?_, .inl ht, hf, by rw [ht]; exact hq⟩
  have := congrArg List.length ht
  rw [List.length_take] at this
  omega

theorem htake0 (h : AH) : h.take h.length = h := List.take_length

theorem wrap_id {n : Int} (h : -9223372036854775808 ≤ n ∧ n ≤ 9223372036854775807) : IntKind.i64.wrap n = n := IntWalk.i64_in n h
theorem wrap_nat {n : Nat} (h : n ≤ 9223372036854775806) : IntKind.i64.wrap ((n : Int) + 1) = ((n + 1 : Nat) : Int) := by
  rw [wrap_id (by omega)]; omega

theorem leaves_all {h h' : AH} {r : AV} {Q : AV → AH → Prop} (hq : Q r h') : Leaves h h' r Q := .inr hq

/-- the arguments that a term uses -/
def T.uses (t : T) : List T := if t.kind = 2 then t.args else []

mutual
def T.size : T → Nat
  | .mk k _ _ l => 1 + (if k = 2 then sizes l else 0)
def sizes : List T → Nat
  | [] => 0
  | t :: l => t.size + sizes l
end
theorem T.size_eq (t : T) : t.size = 1 + sizes t.uses := by
  cases t with | mk k i n l => simp only [T.size, T.uses, T.kind, T.args]; by_cases hk : k = 2 <;> simp [hk, sizes]
theorem sizes_append (l m : List T) : sizes (l ++ m) = sizes l + sizes m := by
  induction l with
  | nil => simp [sizes]
  | cons t l ih => simp only [List.cons_append, sizes, ih]; omega
theorem sizes_take_succ {l : List T} {k : Nat} (h : k < l.length) : sizes (l.take (k + 1)) = sizes (l.take k) + (l[k]).size := by
  rw [List.take_succ_eq_append_getElem h, sizes_append]; simp [sizes]
theorem sizes_take_le (l : List T) (k : Nat) : sizes (l.take k) ≤ sizes l := by
  have := sizes_append (l.take k) (l.drop k)
  rw [List.take_append_drop] at this
  omega
theorem size_pos (t : T) : 1 ≤ t.size := by rw [T.size_eq]; omega
theorem length_le_sizes (l : List T) : l.length ≤ sizes l := by
  induction l with
  | nil => simp
  | cons t l ih => have := size_pos t; simp only [List.length_cons, sizes]; omega

end Go.Proofs.YthkiabcdkhpheaaDoor.Ab

/-
  The abstract program logic: a row of one's own whose room is named; a block of which less is remembered.
-/
set_option linter.unusedVariables false
namespace Go.Proofs.YthkiabcdkhpheaaDoor.Ab

/-- a row of one's own has some room -/
theorem codeW_arrRow {P : Program} {N : Nat} {x : Code} {Q : AExit → AS → Prop} {tm : Nat → AV} {h : AH} (d : Nat) {id lo len ty s : Nat} {xs : List AV} (hb : h[id]? = some (.cells ty s xs)) (hd : tm d = .arr id lo len)
    (H : ∀ cap, len ≤ cap → cap ≤ maxLen → CodeW P N x Q ⟨upd tm d (.row id lo len cap), h⟩) : CodeW P N x Q ⟨tm, h⟩ := by
  intro F n base c a hF hst hr R hR
  have hh : c.h = h := hr.h
  subst hh
  have h1 := hr.tm d
  simp only [hd] at h1
  generalize hu : a.tmps.getD d undef = u at h1
  cases h1 with
  | arr _ _ _ x hid ho h1 =>
    obtain ⟨B, cap, hρ, rfl, h2, h3, cur, h4, h5⟩ := h1 _ _ _ hb
    refine H cap h2 h3 F n base c a hF hst ⟨rfl, hr.size, hr.above, hr.defers, hr.round, fun t => ?_⟩ R hR
    simp only [upd]
    split
    · rename_i ht
      subst ht
      rw [hu]
      refine .row id lo len cap _ hid rfl fun ty' s' xs' hb' => ?_
      rw [hb] at hb'; cases hb'
      exact ⟨B, cur, hρ, rfl, h2, h3, h4, h5⟩
    · exact hr.tm t

/-- of a block one may remember less -/
theorem codeW_clip {P : Program} {N : Nat} {x : Code} {Q : AExit → AS → Prop} {tm : Nat → AV} {h : AH} (id : Nat) {ty s : Nat} {xs : List AV} (hb : h[id]? = some (.cells ty s xs))
    (H : CodeW P N x Q ⟨tm, h.set id (.cells ty s [])⟩) : CodeW P N x Q ⟨tm, h⟩ := by
  intro F n base c a hF hst hr R hR
  have hh : c.h = h := hr.h
  subst hh
  obtain ⟨B, cur, hρ, hcur, h3, h4⟩ := hst.blocks id _ hb
  have hev := Ev.turn (b' := .cells ty s []) hst hb rfl hρ (w := c.w) rfl rfl rfl rfl (fun _ _ => rfl) (.inr ⟨_, rfl, rfl, fun _ cur _ h => ⟨cur, h, rfl⟩⟩)
  have hst2 := St.turn (b' := .cells ty s []) hst hb rfl hρ (w := c.w) (fun _ _ => rfl) hev ⟨B, cur, hρ, hcur, (by simp), by
    intro j a' hj
    simp [flat] at hj⟩
  refine H F n base (c.turn c.w id (.cells ty s [])) a hF hst2 ⟨rfl, hr.size, hr.above, hr.defers.ev hev, RoundOk.ev hev hr.round, fun t => (hr.tm t).ev hst hev⟩ R fun e' s' c' a' ex hq h1 h2 h3 h4 => hR e' s' c' a' ex hq (Ev.trans hst hev h1) h2 h3 h4

/-! ### append of zeros to nil, out of what the kernel says of the type -/
theorem aAppendZ0_eq {P : Program} {t t' e : TypeId} {q : IntKind} {n b k : Nat} {h : AH} (ht : P.underlying t = some (.slice e)) (ht' : P.underlying t' = some (.int q)) (hi : infoOk P e n b = true)
    (hn : 0 < n) (hk : 0 < k) (hm : k ≤ maxLen) (hby : k * b ≤ 140737488355328) :
    aAppendZ0 P t t' (k : Int) h = some (.arr h.length 0 k, h ++ [.cells e n (blanks n k)]) := by
  unfold infoOk at hi
  split at hi
  · rename_i i hi1
    split at hi
    · rename_i z hz
      simp only [Bool.and_eq_true, beq_iff_eq] at hi
      obtain ⟨⟨⟨⟨h1, h2⟩, h3⟩, h4⟩, h5⟩ := hi
      subst h1; subst h2
      unfold aAppendZ0
      simp only [ht, ht', hi1, hz, Int.toNat_natCast]
      exact if_pos ⟨hn, h3, h4, h5, by omega, hm, hby⟩
    · cases hi
  · cases hi

/-- make, out of what the kernel says of the type -/
theorem aMake_eq {P : Program} {t e : TypeId} {q1 q2 : IntKind} {n b k : Nat} {h : AH} (he : elemInfo P t = some (e, n)) (hi : infoOk P e n b = true) (hm : k ≤ maxLen) (hby : k * b ≤ 140737488355328) :
    aMake P t (.v (.int q1 0)) (.v (.int q2 k)) h = some (.sl n [] (some h.length), h ++ [.grow e n 0]) := by
  unfold infoOk at hi
  split at hi
  · rename_i i hi1
    split at hi
    · rename_i z hz
      simp only [Bool.and_eq_true, beq_iff_eq] at hi
      obtain ⟨⟨⟨⟨h1, h2⟩, h3⟩, h4⟩, h5⟩ := hi
      subst h1; subst h2
      unfold aMake
      simp only [he, hi1, hz]
      refine if_pos ⟨by omega, ?_, by simp only [maxLen] at hm ⊢; omega, by trivial⟩
      rw [← Int.natCast_mul, Nat.mul_comm]
      omega
    · cases hi
  · cases hi

theorem rel_nil_sl {c : Cx} {x : Value} (s : Nat) (h : Rel c (.v (.slice none 0 0)) x) : Rel c (.sl s [] none) x := by
  cases h
  exact .slnil s none fun b hb => by cases hb

theorem codeW_nilSl {P : Program} {N : Nat} {code : Code} {Q : AExit → AS → Prop} {tm : Nat → AV} {h : AH} (d s : Nat) (hd : tm d = .v (.slice none 0 0)) (H : CodeW P N code Q ⟨upd tm d (.sl s [] none), h⟩) : CodeW P N code Q ⟨tm, h⟩ := by
  intro F n base c a hF hst hr R hR
  refine H F n base c a hF hst ⟨hr.h, hr.size, hr.above, hr.defers, hr.round, fun t => ?_⟩ R hR
  show Rel c (if t = d then _ else tm t) _
  split
  · rename_i ht
    subst ht
    have h1 := hr.tm t
    simp only [hd] at h1
    exact rel_nil_sl s h1
  · exact hr.tm t

theorem pure_nilArg {P : Program} {f : FuncId} {args : List AV} {r : AV} (s : Nat) (H : Pure P f (.sl s [] none :: args) r) : Pure P f (.v (.slice none 0 0) :: args) r := by
  intro h
  refine ⟨(H h).1, fun F n c vals hF hst hh hvals => (H h).2 F n c vals hF hst hh ⟨hvals.1, fun j a u ha hu => ?_⟩⟩
  cases j with
  | zero =>
    simp only [List.getElem?_cons_zero, Option.some.injEq] at ha
    subst ha
    exact rel_nil_sl s (hvals.2 0 _ u rfl hu)
  | succ j => exact hvals.2 (j + 1) a u (by simpa using ha) hu

end Go.Proofs.YthkiabcdkhpheaaDoor.Ab

/-
  The abstract program logic: what is known of a value may be weakened (a nil slice is a slice without elements; a token is forgotten), as an argument or in a block.
-/
set_option linter.unusedVariables false
namespace Go.Proofs.YthkiabcdkhpheaaDoor.Ab

def Wk (a b : AV) : Prop := ∀ c x, Rel c a x → Rel c b x
def WkL (l l' : List AV) : Prop := l.length = l'.length ∧ ∀ (j : Nat) a b, l[j]? = some a → l'[j]? = some b → Wk a b
theorem Wk.refl (a : AV) : Wk a a := fun _ _ h => h
theorem Wk.trans {a b d : AV} (h : Wk a b) (k : Wk b d) : Wk a d := fun c x r => k c x (h c x r)
theorem Wk.nilS (s : Nat) : Wk (.v (.slice none 0 0)) (.sl s [] none) := fun c x h => rel_nil_sl s h
theorem WkL.nil : WkL [] [] := ⟨rfl, fun j a b h => by simp at h⟩
theorem WkL.refl (l : List AV) : WkL l l := ⟨rfl, fun j a b h k => by rw [h] at k; cases k; exact .refl a⟩
theorem WkL.cons {a b : AV} {l m : List AV} (h : Wk a b) (k : WkL l m) : WkL (a :: l) (b :: m) := by
  refine ⟨by simp [k.1], fun j x y hx hy => ?_⟩
  cases j with
  | zero => simp at hx hy; subst hx; subst hy; exact h
  | succ j => exact k.2 j x y (by simpa using hx) (by simpa using hy)
theorem WkL.append {l1 l2 m1 m2 : List AV} (h : WkL l1 m1) (k : WkL l2 m2) : WkL (l1 ++ l2) (m1 ++ m2) := by
  refine ⟨by simp [h.1, k.1], fun j x y hx hy => ?_⟩
  rcases Nat.lt_or_ge j l1.length with hj | hj
  · rw [List.getElem?_append_left hj] at hx
    rw [List.getElem?_append_left (by rw [← h.1]; exact hj)] at hy
    exact h.2 j x y hx hy
  · rw [List.getElem?_append_right hj] at hx
    rw [List.getElem?_append_right (by rw [← h.1]; exact hj), ← h.1] at hy
    exact k.2 _ x y hx hy
theorem Wk.agg {l m : List AV} (h : WkL l m) : Wk (.agg l) (.agg m) := by
  intro c x r
  cases r with
  | agg _ cs hl hr =>
    refine .agg m cs (hl.trans h.1) fun j a u ha hu => ?_
    obtain ⟨b, hb⟩ : ∃ b, l[j]? = some b := ⟨_, List.getElem?_eq_getElem (by rw [h.1]; exact lt_of_get ha)⟩
    exact h.2 j b a hb ha c u (hr j b u hb hu)
theorem Wk.sl {s : Nat} {xs ys : List AV} {own : Option Nat} (hl : xs.length = ys.length) (hs : ∀ y ∈ ys, y.cells.length = s) (h : WkL (flat xs) (flat ys)) : Wk (.sl s xs own) (.sl s ys none) := by
  intro c x r
  cases r with
  | slnil _ _ ht =>
    cases ys with
    | nil => exact .slnil s none fun b hb => by cases hb
    | cons y ys => simp at hl
  | slzero _ _ ba ht =>
    cases ys with
    | nil => exact .slzero s none ba fun b hb => by cases hb
    | cons y ys => simp at hl
  | sl _ _ _ B o cap f hs' hcap hmax hc hr ht =>
    rw [hl]
    rw [hl] at hcap
    have old : ∀ (j : Nat) a, (flat ys)[j]? = some a → ∃ b, (flat xs)[j]? = some b := fun j a ha => ⟨_, List.getElem?_eq_getElem (by rw [h.1]; exact lt_of_get ha)⟩
    refine .sl s ys none B o cap f hs hcap hmax (fun j a ha => ?_) (fun j a ha => ?_) fun b hb => by cases hb
    · obtain ⟨b, hb⟩ := old j a ha
      exact hc j b hb
    · obtain ⟨b, hb⟩ := old j a ha
      exact h.2 j b a hb ha c _ (hr j b hb)

theorem RelL.weak {c : Cx} {args args' : List AV} {vals : Array Value} (hw : WkL args args') (h : RelL c args vals) : RelL c args' vals := by
  refine ⟨h.1.trans hw.1, fun j a u ha hu => ?_⟩
  obtain ⟨b, hb⟩ : ∃ b, args[j]? = some b := ⟨_, List.getElem?_eq_getElem (by rw [hw.1]; exact lt_of_get ha)⟩
  exact hw.2 j b a hb ha c u (h.2 j b u hb hu)
theorem callW_weak {P : Program} {f : FuncId} {args args' : List AV} {h : AH} {Q : AOut → AH → Prop} (hw : WkL args args') (H : CallW P f args' h Q) : CallW P f args h Q :=
  ⟨H.1, fun F n c vals hF hst hh hvals => H.2 F n c vals hF hst hh (hvals.weak hw)⟩
theorem pure_weak {P : Program} {f : FuncId} {args args' : List AV} {r : AV} (hw : WkL args args') (H : Pure P f args' r) : Pure P f args r := fun h => callW_weak hw (H h)

/-- a block of cells, of which less is remembered -/
theorem codeW_weakCell {P : Program} {N : Nat} {code : Code} {Q : AExit → AS → Prop} {tm : Nat → AV} {h : AH} (id ty s : Nat) (xs xs' : List AV) (hb : h[id]? = some (.cells ty s xs)) (hs : ∀ x ∈ xs', x.cells.length = s) (hw : WkL (flat xs) (flat xs'))
    (H : CodeW P N code Q ⟨tm, h.set id (.cells ty s xs')⟩) : CodeW P N code Q ⟨tm, h⟩ := by
  intro F n base c a hF hst hr R hR
  have hh : c.h = h := hr.h
  subst hh
  obtain ⟨B, cur, hρ, hcur, h3, h4⟩ := hst.blocks id _ hb
  have hev := Ev.turn (b' := .cells ty s xs') hst hb rfl hρ (w := c.w) rfl rfl rfl rfl (fun _ _ => rfl) (.inr ⟨_, rfl, rfl, fun _ cur _ h => ⟨cur, h, rfl⟩⟩)
  have hst2 := St.turn (b' := .cells ty s xs') hst hb rfl hρ (w := c.w) (fun _ _ => rfl) hev ⟨B, cur, hρ, hcur, hs, fun j a' ha => by
    obtain ⟨b, hb'⟩ : ∃ b, (flat xs)[j]? = some b := ⟨_, List.getElem?_eq_getElem (by rw [hw.1]; exact lt_of_get ha)⟩
    obtain ⟨u, g1, g2, g3⟩ := h4 j b hb'
    exact ⟨u, g1, g2, (hw.2 j b a' hb' ha c u g3).ev hst hev⟩⟩
  have hw' : (c.turn c.w id (.cells ty s xs')).w = c.w := rfl
  rw [← hw']
  exact H F n base _ a hF hst2 ⟨rfl, hr.size, Nat.le_trans hr.above hev.size, hr.defers.ev hev, RoundOk.ev hev hr.round, fun t => (hr.tm t).ev hst hev⟩ R fun e' s' c' a' ex hq h1 h2 h3 h4 => hR e' s' c' a' ex hq (Ev.trans hst hev h1) h2 h3 h4
end Go.Proofs.YthkiabcdkhpheaaDoor.Ab

/-
  The abstract program logic: a slice that is built of elements and is to grow.
-/
set_option linter.unusedVariables false
namespace Go.Proofs.YthkiabcdkhpheaaDoor.Ab

theorem buildTok_sound {P : Program} {c : Cx} (hst : St c) {t e : TypeId} {n len : Nat} {parts : List (Nat × AV)} {vals : Array (Nat × Value)} {r : AV} {h' : AH} (he : elemInfo P t = some (e, n)) (ha : aBuildSlice P t len parts c.h = some (r, h'))
    (hi : parts.map (·.1) = vals.toList.map (·.1)) (hv : RelL c (parts.map (·.2)) (vals.toList.map (·.2)).toArray) :
    ∃ y c', (Instr.buildSlice t len vals).run P c.w = .ok y c'.w ∧ Ev c c' ∧ St c' ∧ c'.h = c.h ++ [.grow e n (parts.map (·.2)).length] ∧ Rel c' (.sl n (parts.map (·.2)) (some c.h.length)) y := by
  unfold aBuildSlice at ha
  · obtain ⟨hu, hsz⟩ := elemInfo_run he
    simp only [he] at ha
    split at ha
    · rename_i hh
      obtain ⟨h1, h2, h3, h4, h5⟩ := hh
      cases hz : zeroAV P e with
      | none => simp [hz] at h5
      | some z =>
        obtain ⟨v, hrun, rfl⟩ := zeroAV_run hz
        simp only [hz, Option.any_some, Bool.and_eq_true, beq_iff_eq] at h5
        obtain ⟨hrl0, hone0⟩ := rel_cells (rel_ofV c v) h5.1
        have hvn : v.cells.size = n := by rw [hrl0.1]; exact h5.2
        have hlen : parts.length = len := by have := congrArg List.length h1; simpa using this
        have hall : ∀ x ∈ parts.map (·.2), x.cells1 = true ∧ x.cells.length = n := by
          intro x hx
          simp only [List.mem_map] at hx
          obtain ⟨p, hp, rfl⟩ := hx
          simp only [List.all_eq_true, Bool.and_eq_true, beq_iff_eq] at h2
          exact h2 p hp
        -- the zero cells
        let zs : Array Value := (Array.range (len * n)).map (v.cells[· % v.cells.size]!)
        have hzs : zs.size = len * n := by simp [zs]
        have hzone : ∀ x ∈ zs.toList, x.oneCell' = true := by
          intro x hx
          simp only [zs, Array.mem_toList_iff, Array.mem_map] at hx
          obtain ⟨i, _, rfl⟩ := hx
          have hlt : i % v.cells.size < v.cells.size := Nat.mod_lt _ (by omega)
          rw [getElem!_pos v.cells _ hlt]
          exact hone0 _ (by rw [Array.mem_toList_iff]; exact Array.getElem_mem hlt)
        have hjunk : RelL c (List.replicate (len * n) AV.junk) zs := by
          refine ⟨by simp [hzs], fun j a u ha hu => ?_⟩
          rw [List.getElem?_replicate] at ha
          split at ha
          · cases ha; exact .junk u
          · cases ha
        have hfill : aFill (fun i => some (i * n, n)) (List.replicate (len * n) AV.junk) parts = some (flat (parts.map (·.2))) := by
          have := aFill_row (n := n) (parts.map (·.2)) 0 (List.replicate (len * n) AV.junk) hall (by simp [hlen])
          have e : (List.range' 0 (parts.map (·.2)).length).zip (parts.map (·.2)) = parts := by
            rw [List.length_map, hlen, ← List.range_eq_range', ← h1]
            exact zip_map_fst_snd parts
          rw [e] at this
          rw [this]
          simp [hlen]
        obtain ⟨cs', hf, hrl, _, hone⟩ := aFill_sound hi hv hfill hjunk hzone
        have hfl : (flat (parts.map (·.2))).length = len * n := by
          rw [flat_length (fun x hx => (hall x hx).2)]; simp [hlen]
        have hrun' : (Instr.buildSlice t len vals).run P c.w = .ok (.slice (some ⟨c.w.heap.size, 0, none⟩) len len) (c.w.alloc (.cells cs' e)) := by
          have h3' : ¬ len * n > 2 ^ 24 := by omega
          simp only [Instr.buildSlice, Sem.run_bind, underlying, run_program, Result.andThen_ok, hu, Sem.run_pure, hsz, h3', if_false]
          by_cases h0 : len * n = 0
          · have hz0 : zs = (Array.range (len * n)).map ((#[] : Array Value)[· % (#[] : Array Value).size]!) := by
              apply Array.ext
              · simp [hzs]
              · intro i h1 h2; simp [hzs, h0] at h1
            rw [if_pos h0]
            simp only [Sem.run_bind, Sem.run_pure, Result.andThen_ok]
            rw [← hz0, hf]
            rfl
          · rw [if_neg h0]
            simp only [Sem.run_bind, hrun, Result.andThen_ok, Sem.run_pure]
            rw [hf]
            rfl
        have hmaxl : len ≤ maxLen := by
          have : len * 1 ≤ len * n := Nat.mul_le_mul_left _ h4
          have h24 : (2 : Nat) ^ 24 = 16777216 := by decide
          simp only [maxLen]; omega
        have hl' : (parts.map (·.2)).length = len := by simp [hlen]
        have hg := Grows.alloc c.w (.cells cs' e)
        have ho : ∀ B, some c.w.heap.size = some B → c.w.heap.size ≤ B := fun B h => by cases h; exact Nat.le_refl _
        have hev := Ev.add hst hg (.grow e n (parts.map (·.2)).length) (some c.w.heap.size) ho
        have hρ : (c.add (c.w.alloc (.cells cs' e)) (.grow e n (parts.map (·.2)).length) (some c.w.heap.size)).ρ c.h.length = some c.w.heap.size := by simp [Cx.add]
        have hcs : cs'.size = (parts.map (·.2)).length * n := by rw [hrl.1, hfl, hl']
        have hst' : St (c.add (c.w.alloc (.cells cs' e)) (.grow e n (parts.map (·.2)).length) (some c.w.heap.size)) := by
          refine St.add hst hg _ _ ho ?_
          intro B hB
          rw [hρ] at hB; cases hB
          exact ⟨cs', heap_alloc_top _ _, by omega⟩
        refine ⟨_, c.add (c.w.alloc (.cells cs' e)) (.grow e n (parts.map (·.2)).length) (some c.w.heap.size), hrun', hev, hst', rfl, ?_⟩
        have := rel_sl_tip (c := c.add (c.w.alloc (.cells cs' e)) (.grow e n (parts.map (·.2)).length) (some c.w.heap.size)) hst' (b := c.h.length) (B := c.w.heap.size) (s := n) (cap := (parts.map (·.2)).length) (e := e) (xs := parts.map (·.2)) (cur := cs') (by simp [Cx.add]) hρ (heap_alloc_top _ _) hcs (Nat.le_refl _) (by rw [hl']; exact hmaxl) (fun x hx => (hall x hx).2) (fun j a ha => by
          have hlt : j < cs'.size := by rw [hrl.1]; exact lt_of_get ha
          exact ⟨cs'[j], Array.getElem?_eq_getElem hlt, hone _ (by rw [Array.mem_toList_iff]; exact Array.getElem_mem hlt), (hrl.2 j a _ ha (Array.getElem?_eq_getElem hlt)).ev hst hev⟩)
        exact (show Value.slice (some ⟨c.w.heap.size, 0, none⟩) (parts.map (·.2)).length (parts.map (·.2)).length = Value.slice (some ⟨c.w.heap.size, 0, none⟩) len len by rw [hl']) ▸ this
    · cases ha

/-- a slice built of elements, which is to grow -/
def TokW (P : Program) (N : Nat) (ops : Array Oper) (o : Oper) (K : AS → Prop) (s : AS) : Prop :=
  match awanted ops s.tm o with
  | some true => (match o.op with
    | .buildSlice t len ps => (match elemInfo P t with
      | some (e, n) => (aBuildSlice P t len (ps.toList.map fun p => (p.1, s.ev p.2)) s.h).isSome = true ∧ K (AS.put N { s with h := s.h ++ [.grow e n (ps.toList.map fun p => s.ev p.2).length] } o.dst (.sl n (ps.toList.map fun p => s.ev p.2) (some s.h.length)))
      | none => False)
    | _ => False)
  | some false => K (AS.put N s o.dst (.v undef))
  | none => False

theorem tokW_sound {P : Program} {N : Nat} {base : Bs × Fence} {o : Oper} {s : AS} {t : TypeId} {len : Nat} {ps : Array (Nat × Operand)} {e : TypeId} {m : Nat} (hop : o.op = .buildSlice t len ps) (he : elemInfo P t = some (e, m)) {K : AS → Prop}
    (ha : (aBuildSlice P t len (ps.toList.map fun p => (p.1, s.ev p.2)) s.h).isSome = true)
    (H : K (AS.put N { s with h := s.h ++ [.grow e m (ps.toList.map fun p => s.ev p.2).length] } o.dst (.sl m (ps.toList.map fun p => s.ev p.2) (some s.h.length)))) {F : Fence} {n : Nat} {c : Cx} {a : Act} (hF : WF F) (hst : St c) (hr : SR N base c s a)
    {next : Act → World → Prop} {Qx : Exit → Act → World → Prop} (hK : ∀ s' c' a', K s' → Ev c c' → St c' → SR N base c' s' a' → next a' c'.w) : o.wpIn F n P a c.w next Qx := by
  have hev : ∀ x, Rel c (s.ev x) (a.eval x) := hr.eval
  refine ⟨fun f _ => hF.fn f, ?_⟩
  rw [Oper.semAt_eq _ _ _ (fun q => by rw [hop]; intro h; cases h)]
  obtain ⟨⟨r, h'⟩, ha⟩ := Option.isSome_iff_exists.1 ha
  rw [← hr.h] at ha
  obtain ⟨h1, h2⟩ := relL_parts hev ps
  obtain ⟨y, c', hrun, h3, h4, h5, h6⟩ := buildTok_sound hst he ha h1 h2
  have hrun' : (execOp a.eval o).run P c.w = .ok (.value y) c'.w := by
    simp only [execOp, hop, Sem.run_bind, hrun, Result.andThen_ok, Sem.run_pure]
  rw [hrun']
  have e1 : (ps.toList.map fun p => (p.1, s.ev p.2)).map (·.2) = ps.toList.map fun p => s.ev p.2 := by rw [List.map_map]; rfl
  rw [e1] at h5 h6
  have hp := hr.put hst h3 o.dst h6
  rw [h5, hr.h] at hp
  exact hK _ c' _ H h3 h4 hp

theorem opsW_on {P : Program} {N : Nat} {base : Bs × Fence} {ops : Array Oper} {Q : AS → Prop} {E : AV → AS → Prop} {F : Fence} {n : Nat} (hF : WF F) {Qx : Exit → Act → World → Prop} {tail : List Nat} : ∀ (l : List Oper) (k : Nat) (s : AS) (c : Cx) (a : Act), (∀ j, j < l.length → l[j]? = ops[k + j]?) →
    OpsW P N ops l Q E s → St c → SR N base c s a → (∀ s' c' a', Q s' → Ev c c' → St c' → SR N base c' s' a' → wpOpsIn F n P ops Qx tail a' c'.w) →
    (∀ r s' c' a' x, E r s' → Ev c c' → St c' → SR N base c' s' a' → Rel c' r x → Qx (.panic [{ v := x, recovered := false }]) a' c'.w) → wpOpsIn F n P ops Qx (List.range' k l.length ++ tail) a c.w
  | [], k, s, c, a, hl, H, hst, hr, hQ, hE => by
    simp only [List.length_nil, List.range'_zero, List.nil_append]
    exact hQ s c a H (Ev.refl c) hst hr
  | o :: l, k, s, c, a, hl, H, hst, hr, hQ, hE => by
    have h0 : ops[k]? = some o := by simpa using (hl 0 (by simp)).symm
    have hl' : ∀ j, j < l.length → l[j]? = ops[k + 1 + j]? := fun j hj => by have := hl (j + 1) (by simp; omega); simpa [Nat.add_assoc, Nat.add_comm 1 j] using this
    simp only [List.length_cons, List.range'_succ, List.cons_append, wpOpsIn, h0]
    simp only [OpsW] at H
    split at H
    · rename_i hw
      rw [awanted_sound hr hw]
      simp only [if_true]
      refine opW_sound H hF hst hr ?_ ?_
      · intro s' c' a' hK h1 h2 h3
        exact opsW_on hF l (k + 1) s' c' a' hl' hK h2 h3 (fun s2 c2 a2 q e2 t2 r2 => hQ s2 c2 a2 q (Ev.trans hst h1 e2) t2 r2) (fun r s2 c2 a2 x q e2 t2 r2 => hE r s2 c2 a2 x q (Ev.trans hst h1 e2) t2 r2)
      · intro r s' c' x he h1 h2 h3 hx
        exact hE r s' c' a x he h1 h2 h3 hx
    · rename_i hw
      rw [awanted_sound hr hw]
      simp only [Bool.false_eq_true, if_false]
      refine ⟨fun f _ => hF.fn f, ?_⟩
      have hr' := hr.put hst (Ev.refl c) o.dst (.v undef)
      rw [hr.h] at hr'
      exact opsW_on hF l (k + 1) _ c _ hl' H hst hr' hQ hE
    · exact H.elim

/-- a region in which operation i builds a slice that is to grow -/
theorem codeW_region_tok {P : Program} {N : Nat} {Q : AExit → AS → Prop} {s : AS} {id : Nat} {ops : Array Oper} (i : Nat) {o : Oper} (ho : ops.toList[i]? = some o)
    (H : ∀ (K : AS → Prop) (E : AV → AS → Prop), (∀ s, Q .normal s → K s) → (∀ r s, Q (.panic r) s → E r s) → OpsW P N ops (ops.toList.take i) (TokW P N ops o (OpsW P N ops (ops.toList.drop (i + 1)) K E)) E s) : CodeW P N (.region id ops false) Q s := by
  intro F n base c a hF hst hr R hR
  refine wpIn_region ?_
  have hlt := lt_of_get ho
  have hH := H (fun s' => Q .normal s') (fun r s' => Q (.panic r) s') (fun _ h => h) (fun _ _ h => h)
  have hi : (ops.toList.take i).length = i := by rw [List.length_take]; omega
  have hrange : List.range ops.size = List.range' 0 (ops.toList.take i).length ++ (i :: (List.range' (i + 1) (ops.toList.drop (i + 1)).length ++ [])) := by
    rw [hi, List.append_nil, List.length_drop, List.range_eq_range', ← Array.length_toList]
    have : ops.toList.length = i + (1 + (ops.toList.length - (i + 1))) := by omega
    conv => lhs; rw [this]
    rw [← List.range'_append_1, Nat.zero_add, ← List.range'_append_1]
    rfl
  have hget : ∀ j, (ops.toList.drop (i + 1))[j]? = ops[i + 1 + j]? := fun j => by rw [List.getElem?_drop]; simp
  rw [hrange]
  refine opsW_on hF (ops.toList.take i) 0 s c a (fun j hj => by rw [List.getElem?_take, if_pos (by omega)]; simp) hH hst hr ?_ ?_
  · intro s1 c1 a1 h1 h2 h3 h4
    have h0 : ops[i]? = some o := by rw [← ho]; simp
    have hrest : ∀ s2 c2 a2, OpsW P N ops (ops.toList.drop (i + 1)) (fun s' => Q .normal s') (fun r s' => Q (.panic r) s') s2 → Ev c c2 → St c2 → SR N (base, F) c2 s2 a2 → wpOpsIn F n P ops R (List.range' (i + 1) (ops.toList.drop (i + 1)).length ++ []) a2 c2.w := by
      intro s2 c2 a2 hq he2 hst2 hr2
      refine opsW_on hF _ (i + 1) s2 c2 a2 (fun j _ => hget j) hq hst2 hr2 ?_ ?_
      · intro s' c' a' hQ k1 k2 k3
        simp only [wpOpsIn]
        exact hR _ s' c' a' _ hQ (Ev.trans hst he2 k1) k2 k3 rfl
      · intro r s' c' a' x hQ k1 k2 k3 hx
        exact hR _ s' c' a' _ hQ (Ev.trans hst he2 k1) k2 k3 ⟨x, rfl, hx⟩
    simp only [wpOpsIn, h0]
    unfold TokW at h1
    split at h1
    · rename_i hw
      rw [awanted_sound h4 hw]
      simp only [if_true]
      split at h1
      · rename_i t len ps hop
        split at h1
        · rename_i e m he
          exact tokW_sound hop he h1.1 h1.2 hF h3 h4 fun s' c' a' hK k1 k2 k3 => hrest s' c' a' hK (Ev.trans hst h2 k1) k2 k3
        · exact h1.elim
      · exact h1.elim
    · rename_i hw
      rw [awanted_sound h4 hw]
      simp only [Bool.false_eq_true, if_false]
      refine ⟨fun f _ => hF.fn f, ?_⟩
      have hr' := h4.put h3 (Ev.refl c1) o.dst (.v undef)
      rw [h4.h] at hr'
      exact hrest _ c1 _ h1 h2 h3 hr'
    · exact h1.elim
  · intro r s' c' a' x hQ h1 h2 h3 hx
    exact hR _ s' c' a' _ hQ h1 h2 h3 ⟨x, rfl, hx⟩
theorem codeW_seq_tok {P : Program} {N : Nat} {Q : AExit → AS → Prop} {s : AS} {id : Nat} {ops : Array Oper} {y : Code} (i : Nat) {o : Oper} (ho : ops.toList[i]? = some o)
    (H : ∀ (K : AS → Prop) (E : AV → AS → Prop), (∀ s, CodeW P N y Q s → K s) → (∀ r s, Q (.panic r) s → E r s) → OpsW P N ops (ops.toList.take i) (TokW P N ops o (OpsW P N ops (ops.toList.drop (i + 1)) K E)) E s) : CodeW P N (.seq (.region id ops false) y) Q s :=
  codeW_seq (codeW_region_tok i ho (fun K E hK hE => H K E hK hE))
end Go.Proofs.YthkiabcdkhpheaaDoor.Ab

/-
  The abstract program logic: a contract of the kit's shelf as a contract of this logic.
-/
set_option linter.unusedVariables false
namespace Go.Proofs.YthkiabcdkhpheaaDoor.Ab
open Go.RowKit

theorem WF.plain_wide {F : Fence} (h : WF F) : F.plain = Fence.wide := by
  obtain ⟨fn, depth, alive, round⟩ := F
  obtain ⟨h1, h2, h3⟩ := h
  have h1' : ∀ f, fn f := h1
  have h2' : depth = none := h2
  have h3' : alive = false := h3
  subst h2' h3'
  have : fn = fun _ => True := funext fun f => by simpa using h1' f
  subst this
  rfl
theorem callsIn_of_calls {F : Fence} (hF : WF F) {n : Nat} {P : Program} {f : FuncId} {args : Array Value} {w : World} {R : Ending → World → Prop} (h : Calls P f args w R) : CallsIn F n P f args w R :=
  callsIn_plain (by rw [hF.plain_wide]; exact callsIn_wide.2 h)
theorem Grows.of_below {w w' : World} (h : Go.RowKit.Below w.heap.size w w') : Grows w w' := ⟨h.os, h.tape, h.output, h.size, h.block⟩

theorem relL_vs {c : Cx} {vs : List Value} {vals : Array Value} (h : RelL c (vs.map AV.v) vals) : vals = vs.toArray := by
  apply Array.ext'
  apply List.ext_getElem?
  intro j
  rcases Nat.lt_or_ge j vs.length with hj | hj
  · have h1 : (vs.map AV.v)[j]? = some (.v vs[j]) := by rw [List.getElem?_map, List.getElem?_eq_getElem hj]; rfl
    have hs : vals.size = vs.length := by rw [h.1, List.length_map]
    have h2 : vals[j]? = some vals[j] := Array.getElem?_eq_getElem (by omega)
    have := h.2 j _ _ h1 h2
    rw [Array.getElem?_toList, h2, List.toList_toArray, List.getElem?_eq_getElem hj]
    generalize vals[j] = u at this
    cases this
    rfl
  · have hs : vals.size = vs.length := by rw [h.1, List.length_map]
    rw [Array.getElem?_toList, Array.getElem?_eq_none (by omega), List.toList_toArray, List.getElem?_eq_none hj]

/-- a contract of the kit: the world only grows -/
theorem callW_kit {P : Program} {f : FuncId} {vs : List Value} {h : AH} {a : AV} (hcall : ∀ vals w, (callFunc f vals).run P w = .ok (.enter f vals) w)
    (H : ∀ c : Cx, St c → c.h = h → Calls P f vs.toArray c.w fun e w' => ∃ u, e = .returned u ∧ Go.RowKit.Below c.w.heap.size c.w w' ∧ ∀ c', Rel c' a u) : CallW P f (vs.map AV.v) h fun o h' => o = .ret a ∧ h' = h := by
  refine ⟨hcall, fun F n c vals hF hst hh hvals => callsIn_of_calls hF ?_⟩
  rw [relL_vs hvals]
  refine (H c hst hh).mono ?_
  rintro e w' ⟨u, rfl, hb, hu⟩
  have hg := Grows.of_below hb
  exact ⟨.ret a, c.to w', ⟨rfl, hh⟩, Ev.grows hst hg, hst.grows hg, rfl, ⟨u, rfl, hu _⟩⟩
theorem pure_kit {P : Program} {f : FuncId} {vs : List Value} {a : AV} (hcall : ∀ vals w, (callFunc f vals).run P w = .ok (.enter f vals) w)
    (H : ∀ w, Calls P f vs.toArray w fun e w' => ∃ u, e = .returned u ∧ Go.RowKit.Below w.heap.size w w' ∧ ∀ c', Rel c' a u) : Pure P f (vs.map AV.v) a :=
  fun h => callW_kit hcall fun c _ _ => H c.w
end Go.Proofs.YthkiabcdkhpheaaDoor.Ab

/-
  The abstract program logic: strings: a byte, a part, two joined; the rune that a range over a string meets.
-/
set_option linter.unusedVariables false
namespace Go.Proofs.YthkiabcdkhpheaaDoor.Ab

/-- the byte at a place -/
def byteAt (s : ByteArray) (i : Nat) : Int := ((s.data.toList.getD i 0).toNat : Nat)
theorem byteAt_rng (s : ByteArray) (i : Nat) : 0 ≤ byteAt s i ∧ byteAt s i < 256 := by
  have := (s.data.toList.getD i 0).toNat_lt
  unfold byteAt
  omega
theorem get_byteAt (s : ByteArray) (i : Nat) (h : i < s.size) : s[i]? = some (s.data.toList.getD i 0) := by
  have h' : i < s.data.size := h
  rw [getElem?_pos s i h]
  congr 1
  show s.data[i] = _
  rw [List.getD_eq_getElem?_getD, List.getElem?_eq_getElem (by simpa using h')]
  simp
theorem pv_sindex (P : Program) (t : TypeId) (ht : P.underlying t = some .string) (s : ByteArray) (i : Nat) (h : i < s.size) : pv P (Instr.index t (.string s) (.int .i64 (i : Int))) = some (.int .u8 (byteAt s i)) := by
  have hi : (0 : Int) ≤ (i : Int) := by omega
  simp only [Instr.index, asIntOf, Bind.bind, Sem.bind, Pure.pure, pv, underlying, program, ht]
  rw [if_pos hi, Int.toNat_natCast, get_byteAt s i h]
  rfl
theorem pv_sindex0 (P : Program) (t : TypeId) (ht : P.underlying t = some .string) (s : ByteArray) (h : 0 < s.size) : pv P (Instr.index t (.string s) (.int .i64 0)) = some (.int .u8 (byteAt s 0)) := pv_sindex P t ht s 0 h
theorem pv_bound (P : Program) (q : IntKind) (i : Int) (y : Nat) (code : BoundsCode) (h : 0 ≤ i ∧ i ≤ (y : Int)) : pv P (Instr.sliceBound (.int q i) y code) = some i.toNat := by
  show pv P (if 0 ≤ i ∧ i ≤ (y : Int) then pure i.toNat else boundsPanic q i y code) = _
  rw [if_pos h]; rfl
theorem pv_pure {α : Type} (P : Program) (a : α) : pv P (pure a : Sem α) = some a := rfl
theorem pv_underlying (P : Program) {t : TypeId} {d : TypeDesc} (ht : P.underlying t = some d) : pv P (underlying t) = some d := by
  simp only [underlying, program, Bind.bind, Sem.bind, pv, ht]; rfl
theorem pv_bounds (P : Program) (len cap : Nat) (lo hi : Option (IntKind × Int)) (l k : Nat) (hk : match hi with | some (_, i) => 0 ≤ i ∧ i ≤ (cap : Int) ∧ i.toNat = k | none => len = k) (hl : match lo with | some (_, i) => 0 ≤ i ∧ i ≤ (k : Int) ∧ i.toNat = l | none => l = 0) :
    pv P (Instr.sliceBounds false len cap (lo.map fun x => .int x.1 x.2) (hi.map fun x => .int x.1 x.2) none) = some (l, k, cap) := by
  unfold Instr.sliceBounds
  cases hi with
  | none =>
    subst hk
    cases lo with
    | none => subst hl; rfl
    | some x =>
      obtain ⟨q, i⟩ := x
      obtain ⟨h1, h2, h3⟩ := hl
      simp only [Option.map_none, Option.map_some, pv_bind, pv_pure, Option.bind_some, Option.isSome_none, Bool.false_eq_true, ↓reduceIte, pv_bound P q i len .sliceB ⟨h1, h2⟩, h3]
  | some x =>
    obtain ⟨q, i⟩ := x
    obtain ⟨h1, h2, h3⟩ := hk
    cases lo with
    | none =>
      subst hl
      simp only [Option.map_none, Option.map_some, pv_bind, pv_pure, Option.bind_some, Option.isSome_none, Bool.false_eq_true, ↓reduceIte, pv_bound P q i cap .sliceAlen ⟨h1, h2⟩, h3]
    | some x =>
      obtain ⟨q', i'⟩ := x
      obtain ⟨h4, h5, h6⟩ := hl
      simp only [Option.map_none, Option.map_some, pv_bind, pv_pure, Option.bind_some, Option.isSome_none, Bool.false_eq_true, ↓reduceIte, pv_bound P q i cap .sliceAlen ⟨h1, h2⟩, h3, pv_bound P q' i' k .sliceB ⟨h4, h5⟩, h6]
theorem pv_spart (P : Program) (t : TypeId) (ht : P.underlying t = some .string) (s : ByteArray) (lo hi : Option (IntKind × Int)) (l k : Nat) (hk : match hi with | some (_, i) => 0 ≤ i ∧ i ≤ (s.size : Int) ∧ i.toNat = k | none => s.size = k) (hl : match lo with | some (_, i) => 0 ≤ i ∧ i ≤ (k : Int) ∧ i.toNat = l | none => l = 0) :
    pv P (Instr.sliceAt t (.string s) (lo.map fun x => .int x.1 x.2) (hi.map fun x => .int x.1 x.2) none) = some (.string (s.extract l k)) := by
  have hu : pv P (underlying t) = some .string := pv_underlying P ht
  have := pv_bounds P s.size s.size lo hi l k hk hl
  unfold Instr.sliceAt
  rw [pv_bind, hu]
  show pv P (Instr.slice t (.string s) _ _ none) = _
  unfold Instr.slice
  rw [pv_bind, hu]
  simp only [Option.bind_some, Option.isSome_none, Bool.false_eq_true, ↓reduceIte, pv_bind, pv_pure, this]
theorem pv_sfrom (P : Program) (t : TypeId) (ht : P.underlying t = some .string) (s : ByteArray) (i : Nat) (h : i ≤ s.size) : pv P (Instr.sliceAt t (.string s) (some (.int .i64 (i : Int))) none none) = some (.string (s.extract i s.size)) :=
  pv_spart P t ht s (some (.i64, i)) none i s.size rfl ⟨by omega, by omega, by omega⟩
theorem pv_sadd (P : Program) (t : TypeId) (xo yo : Operand) (a b : ByteArray) (h : a.size + b.size ≤ 9223372036854775807) : pv P (do eqGuard .add t xo yo (.string a) (.string b); binOp .add t (.string a) (.string b)) = some (.string (a ++ b)) := by
  have h1 : pv P (Op.stringOp .add a b) = some (.string (a ++ b)) := by
    unfold Op.stringOp
    simp only
    rw [if_neg (by show ¬ ((a.size + b.size : Nat) : Int) > 9223372036854775807; omega)]
    rfl
  rw [pv_bind]
  show (some ()).bind _ = _
  exact h1

/-! ### division -/
section
variable (P : Program) (t : TypeId) (xo yo : Operand) (k : IntKind) (a b : Int)
theorem pv_quo (h : b ≠ 0) : pv P (do eqGuard .quo t xo yo (.int k a) (.int k b); binOp .quo t (.int k a) (.int k b)) = some (.int k (k.wrap (a.tdiv b))) := by
  cases k <;> (rw [pv_bind]; show pv P (Op.intDiv .quo _ a b) = _; simp [Op.intDiv, h]; rfl)
theorem pv_rem (h : b ≠ 0) : pv P (do eqGuard .rem t xo yo (.int k a) (.int k b); binOp .rem t (.int k a) (.int k b)) = some (.int k (a.tmod b)) := by
  cases k <;> (rw [pv_bind]; show pv P (Op.intDiv .rem _ a b) = _; simp [Op.intDiv, h]; rfl)
end

/-! ### runes -/
theorem get_bang (s : ByteArray) (i : Nat) : ((s.get! i).toNat : Int) = byteAt s i := by
  unfold byteAt
  congr 2
  show s.data[i]! = _
  rw [List.getD_eq_getElem?_getD]
  by_cases h : i < s.data.size
  · rw [getElem!_pos s.data i h, List.getElem?_eq_getElem (by simpa using h)]
    simp
  · rw [getElem!_neg s.data i h, List.getElem?_eq_none (by simpa using h)]
    rfl
theorem decode_ascii {s : ByteArray} {i : Nat} (h : byteAt s i < 128) : ((Utf8.decode s i).1 : Int) = byteAt s i ∧ (Utf8.decode s i).2 = 1 := by
  rw [← get_bang] at h ⊢
  unfold Utf8.decode
  simp only [Nat.add_zero]
  rw [if_pos (by omega)]
  exact ⟨rfl, rfl⟩
theorem decode_big {s : ByteArray} {i : Nat} (h : 128 ≤ byteAt s i) : 128 ≤ (Utf8.decode s i).1 := by
  rw [← get_bang] at h
  unfold Utf8.decode
  simp only [Nat.add_zero]
  rw [if_neg (by omega)]
  have hr : (128 : Nat) ≤ Utf8.runeError := by decide
  repeat' split
  all_goals first | exact hr | (rename_i h; simp at h; omega) | (simp_all; omega)
end Go.Proofs.YthkiabcdkhpheaaDoor.Ab

/-
  Decimal numerals: plain laws.
-/
set_option linter.unusedVariables false
namespace Go.Proofs.YthkiabcdkhpheaaDoor.Ab
open Go.Lib

def decN (n : Nat) : ByteArray := ⟨(decDigits n).toArray⟩
theorem decN_size (n : Nat) : (decN n).size = nDigits n := by
  show (decDigits n).toArray.size = _
  rw [List.size_toArray, decDigits_length]
theorem decN_list (n : Nat) : (decN n).data.toList = decDigits n := rfl
theorem nDigits_mono : ∀ (k n : Nat), n < 10 ^ (k + 1) → nDigits n ≤ k + 1
  | 0, n, h => by rw [nDigits_small (by simpa using h)]; exact Nat.le_refl _
  | k + 1, n, h => by
    by_cases hn : n < 10
    · rw [nDigits_small hn]; omega
    · rw [nDigits_big hn]
      have := nDigits_mono k (n / 10) (by rw [Nat.pow_succ] at h; omega)
      omega
theorem decN_le20 {n : Nat} (h : n ≤ 9223372036854775808) : (decN n).size ≤ 19 := by
  rw [decN_size]
  exact nDigits_mono 18 n (by omega)
theorem decN_le7 {n : Nat} (h : n ≤ 1048576) : (decN n).size ≤ 7 := by
  rw [decN_size]
  exact nDigits_mono 6 n (by omega)
theorem decN_pos (n : Nat) : 1 ≤ (decN n).size := by rw [decN_size]; exact nDigits_pos n
theorem ba_ext {a b : ByteArray} (h : a.data.toList = b.data.toList) : a = b := by
  obtain ⟨a⟩ := a; obtain ⟨b⟩ := b
  congr 1
  exact Array.toList_inj.1 h
theorem ba_append (a b : ByteArray) : (a ++ b).data.toList = a.data.toList ++ b.data.toList := by
  rw [ByteArray.data_append, Array.toList_append]
theorem decN_small {n : Nat} (h : n < 10) : decN n = strOfNums [((48 + n : Nat) : Int)] := by
  refine ba_ext ?_
  rw [decN_list, decDigits_one h, strOfNums_data]
  rfl
theorem decN_big {n : Nat} (h : ¬ n < 10) : decN n = decN (n / 10) ++ strOfNums [((48 + n % 10 : Nat) : Int)] := by
  refine ba_ext ?_
  rw [ba_append, decN_list, decN_list, decDigits, dif_neg h, strOfNums_data]
  rfl

theorem decFrom_append : ∀ (l m : List UInt8) (a : Nat), decFrom a (l ++ m) = (decFrom a l).bind fun b => decFrom b m
  | [], m, a => rfl
  | c :: l, m, a => by
    rw [List.cons_append]
    simp only [decFrom]
    cases digitVal c with
    | none => rfl
    | some d => exact decFrom_append l m _
theorem digitVal_dig {d : Nat} (h : d < 10) : digitVal (UInt8.ofNat (48 + d)) = some d := by
  have e : (UInt8.ofNat (48 + d)).toNat = 48 + d := by
    rw [UInt8.toNat_ofNat']; omega
  unfold digitVal
  rw [e, if_pos (by omega)]
  congr 1; omega
theorem decFrom_dec (n : Nat) : decFrom 0 (decDigits n) = some n := by
  induction n using Nat.strongRecOn with
  | _ n ih =>
    rw [decDigits]
    split
    · rename_i h
      simp only [decFrom, digitVal_dig h]
      congr 1; omega
    · rename_i h
      rw [decFrom_append, ih (n / 10) (by omega), Option.bind_some]
      simp only [decFrom, digitVal_dig (show n % 10 < 10 by omega)]
      congr 1; omega
theorem decFrom_lt : ∀ (l : List UInt8) (a n : Nat), decFrom a l = some n → n < (a + 1) * 10 ^ l.length
  | [], a, n, h => by simp only [decFrom, Option.some.injEq] at h; simp; omega
  | c :: l, a, n, h => by
    simp only [decFrom] at h
    unfold digitVal at h
    split at h
    · rename_i d hd
      have := decFrom_lt l _ n h
      split at hd
      · rename_i hr
        cases hd
        refine Nat.lt_of_lt_of_le this ?_
        rw [List.length_cons, Nat.pow_succ, Nat.mul_comm (10 ^ l.length) 10, ← Nat.mul_assoc]
        refine Nat.mul_le_mul_right _ ?_
        omega
      · cases hd
    · cases h
theorem decN_inj {m n : Nat} (h : decN m = decN n) : m = n := by
  have := decFrom_dec m
  rw [← decN_list, h, decN_list, decFrom_dec] at this
  exact (Option.some.inj this).symm
theorem head_dec (n : Nat) : ∃ d r, d < 10 ∧ decDigits n = UInt8.ofNat (48 + d) :: r := by
  induction n using Nat.strongRecOn with
  | _ n ih =>
    rw [decDigits]
    split
    · rename_i h; exact ⟨n, [], h, rfl⟩
    · rename_i h
      obtain ⟨d, r, hd, e⟩ := ih (n / 10) (by omega)
      exact ⟨d, r ++ [UInt8.ofNat (48 + n % 10)], hd, by rw [e]; rfl⟩
theorem atoi_dec {n : Nat} (h : (decDigits n).length ≤ 18) : atoiAll (decDigits n) = .ok (n : Int) := by
  rw [atoiAll_short _ h]
  obtain ⟨d, r, hd, e⟩ := head_dec n
  have e1 : (UInt8.ofNat (48 + d)).toNat = 48 + d := by rw [UInt8.toNat_ofNat']; omega
  have h45 : (UInt8.ofNat (48 + d) == 45) = false := by
    rw [beq_eq_false_iff_ne]; intro h; have := congrArg UInt8.toNat h; rw [e1] at this; simp at this; omega
  have h43 : (UInt8.ofNat (48 + d) == 43) = false := by
    rw [beq_eq_false_iff_ne]; intro h; have := congrArg UInt8.toNat h; rw [e1] at this; simp at this; omega
  have : atoi (decDigits n) = some (n : Int) := by
    have hdn : decNat (decDigits n) = some n := by
      unfold decNat
      rw [if_neg (by rw [e]; simp)]
      exact decFrom_dec n
    rw [e] at hdn ⊢
    simp only [atoi, h45, h43, Bool.false_eq_true, if_false, hdn, Option.map_some]
  rw [this]; rfl
end Go.Proofs.YthkiabcdkhpheaaDoor.Ab
