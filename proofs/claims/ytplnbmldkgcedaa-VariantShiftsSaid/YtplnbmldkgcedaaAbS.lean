/-
  The abstract program logic: how a frame is worked out: equations for the walk.
-/
import Derived.Test.YtplnbmldkgcedaaAbO
set_option linter.unusedVariables false
set_option maxHeartbeats 4000000
namespace Go.Proofs.Ytplnbmldkgcedaa.Ab

theorem hget (h l : AH) (k : Nat) : (h ++ l)[h.length + k]? = l[k]? := by
  rw [List.getElem?_append_right (by omega)]; congr 1; omega
theorem hget0 (h l : AH) : (h ++ l)[h.length]? = l[0]? := hget h l 0
theorem hset (h l : AH) (k : Nat) (b : AB) : (h ++ l).set (h.length + k) b = h ++ l.set k b := by
  rw [List.set_append_right _ _ (by omega)]; congr 2; omega
theorem hset0 (h l : AH) (b : AB) : (h ++ l).set h.length b = h ++ l.set 0 b := hset h l 0 b
theorem hext {h : AH} {i : Nat} {b : AB} (hb : h[i]? = some b) (l : AH) : (h ++ l)[i]? = some b := by
  rw [List.getElem?_append_left (lt_of_get hb)]; exact hb
theorem hsetx {h : AH} {i : Nat} (hi : i < h.length) (l : AH) (b : AB) : (h ++ l).set i b = h.set i b ++ l := by
  rw [List.set_append_left _ _ hi]
theorem hlen (h l : AH) : (h ++ l).length = h.length + l.length := List.length_append
theorem happ (h l m : AH) : (h ++ l) ++ m = h ++ (l ++ m) := List.append_assoc h l m
theorem htake (h l : AH) : (h ++ l).take h.length = h := List.take_left

/-! ### cells of values -/

theorem cells_agg (l : List AV) : (AV.agg l).cells = l := rfl
theorem cells_v (x : Value) : (AV.v x).cells = [.v x] := rfl
theorem cells_sl (s : Nat) (xs : List AV) (o : Option Nat) : (AV.sl s xs o).cells = [.sl s xs o] := rfl
theorem cells_pin (s : Nat) (xs : List AV) (k o : Nat) : (AV.pin s xs k o).cells = [.pin s xs k o] := rfl
theorem cells_ptr (i k o : Nat) : (AV.ptr i k o).cells = [.ptr i k o] := rfl
theorem cells_arr (i k o : Nat) : (AV.arr i k o).cells = [.arr i k o] := rfl
theorem cells_mp (i : Nat) : (AV.mp i).cells = [.mp i] := rfl
theorem cells_fn (f : Fn) (a b : List AV) : (AV.fn f a b).cells = [.fn f a b] := rfl
theorem cells_ifc (t : TypeId) (x : AV) : (AV.ifc t x).cells = [.ifc t x] := rfl
theorem isAgg_agg (l : List AV) : (AV.agg l).isAgg = true := rfl
theorem isAgg_v (x : Value) : (AV.v x).isAgg = false := rfl
theorem isAgg_sl (s : Nat) (xs : List AV) (o : Option Nat) : (AV.sl s xs o).isAgg = false := rfl
theorem isAgg_pin (s : Nat) (xs : List AV) (k o : Nat) : (AV.pin s xs k o).isAgg = false := rfl
theorem isAgg_ptr (i k o : Nat) : (AV.ptr i k o).isAgg = false := rfl
theorem isAgg_arr (i k o : Nat) : (AV.arr i k o).isAgg = false := rfl
theorem isAgg_mp (i : Nat) : (AV.mp i).isAgg = false := rfl
theorem isAgg_fn (f : Fn) (a b : List AV) : (AV.fn f a b).isAgg = false := rfl
theorem isAgg_ifc (t : TypeId) (x : AV) : (AV.ifc t x).isAgg = false := rfl
theorem cell1_int (k : IntKind) (n : Int) : (AV.v (.int k n)).cell1 = true := rfl
theorem cell1_bool (b : Bool) : (AV.v (.bool b)).cell1 = true := rfl
theorem cell1_str (b : ByteArray) : (AV.v (.string b)).cell1 = true := rfl
theorem cell1_slice (a : Option Addr) (m n : Nat) : (AV.v (.slice a m n)).cell1 = true := rfl
theorem cell1_map (a : Option Nat) : (AV.v (.map a)).cell1 = true := rfl
theorem cell1_pointer (a : Option Addr) : (AV.v (.pointer a)).cell1 = true := rfl
theorem cell1_nilFunc : (AV.v .nilFunc).cell1 = true := rfl
theorem cell1_nilIface : (AV.v .nilIface).cell1 = true := rfl
theorem cell1_sl (s : Nat) (xs : List AV) (o : Option Nat) : (AV.sl s xs o).cell1 = true := rfl
theorem cell1_pin (s : Nat) (xs : List AV) (k o : Nat) : (AV.pin s xs k o).cell1 = true := rfl
theorem cell1_ptr (i k o : Nat) : (AV.ptr i k o).cell1 = true := rfl
theorem cell1_arr (i k o : Nat) : (AV.arr i k o).cell1 = true := rfl
theorem cell1_mp (i : Nat) : (AV.mp i).cell1 = true := rfl
theorem cell1_fn (f : Fn) (a b : List AV) : (AV.fn f a b).cell1 = true := rfl
theorem cell1_ifc (t : TypeId) (x : AV) : (AV.ifc t x).cell1 = true := rfl
theorem ofV_int (k : IntKind) (n : Int) : AV.ofV (.int k n) = .v (.int k n) := rfl
theorem ofV_bool (b : Bool) : AV.ofV (.bool b) = .v (.bool b) := rfl
theorem ofV_str (b : ByteArray) : AV.ofV (.string b) = .v (.string b) := rfl
theorem ofV_slice (a : Option Addr) (m n : Nat) : AV.ofV (.slice a m n) = .v (.slice a m n) := rfl
theorem ofV_map (a : Option Nat) : AV.ofV (.map a) = .v (.map a) := rfl
theorem ofV_pointer (a : Option Addr) : AV.ofV (.pointer a) = .v (.pointer a) := rfl
theorem ofV_nilFunc : AV.ofV .nilFunc = .v .nilFunc := rfl
theorem ofV_nilIface : AV.ofV .nilIface = .v .nilIface := rfl
theorem ofV_agg (cs : Array Value) : AV.ofV (.agg cs) = .agg (cs.toList.map .v) := rfl

/-! ### values of operations on numbers -/

section
variable (P : Program) (t : TypeId) (xo yo : Operand) (k : IntKind) (a b : Int)
theorem pv_eql : pv P (do eqGuard .eql t xo yo (.int k a) (.int k b); binOp .eql t (.int k a) (.int k b)) = some (.bool (a == b)) := by cases k <;> rfl
theorem pv_neq : pv P (do eqGuard .neq t xo yo (.int k a) (.int k b); binOp .neq t (.int k a) (.int k b)) = some (.bool (a != b)) := by cases k <;> rfl
theorem pv_lss : pv P (do eqGuard .lss t xo yo (.int k a) (.int k b); binOp .lss t (.int k a) (.int k b)) = some (.bool (a < b)) := by cases k <;> rfl
theorem pv_leq : pv P (do eqGuard .leq t xo yo (.int k a) (.int k b); binOp .leq t (.int k a) (.int k b)) = some (.bool (a ≤ b)) := by cases k <;> rfl
theorem pv_gtr : pv P (do eqGuard .gtr t xo yo (.int k a) (.int k b); binOp .gtr t (.int k a) (.int k b)) = some (.bool (a > b)) := by cases k <;> rfl
theorem pv_geq : pv P (do eqGuard .geq t xo yo (.int k a) (.int k b); binOp .geq t (.int k a) (.int k b)) = some (.bool (a ≥ b)) := by cases k <;> rfl
theorem pv_add : pv P (do eqGuard .add t xo yo (.int k a) (.int k b); binOp .add t (.int k a) (.int k b)) = some (.int k (k.wrap (a + b))) := by cases k <;> rfl
theorem pv_sub : pv P (do eqGuard .sub t xo yo (.int k a) (.int k b); binOp .sub t (.int k a) (.int k b)) = some (.int k (k.wrap (a - b))) := by cases k <;> rfl
theorem pv_mul : pv P (do eqGuard .mul t xo yo (.int k a) (.int k b); binOp .mul t (.int k a) (.int k b)) = some (.int k (k.wrap (a * b))) := by cases k <;> rfl
theorem pv_not (x : Bool) : pv P (Op.unary .not (.bool x)) = some (.bool !x) := rfl
theorem pv_neg : pv P (Op.unary .neg (.int k a)) = some (.int k (k.wrap (0 - a))) := by cases k <;> rfl
theorem pv_max (ty : TypeId) (ts : Array TypeId) : pv P (Builtin.max_ ts ty #[.int k a, .int k b]) = some (.int k (if b > a then b else a)) := by cases k <;> rfl
theorem pv_min (ty : TypeId) (ts : Array TypeId) : pv P (Builtin.min_ ts ty #[.int k a, .int k b]) = some (.int k (if b < a then b else a)) := by cases k <;> rfl
end

theorem pv_bind {α β : Type} (P : Program) : ∀ (x : Sem α) (f : α → Sem β), pv P (x >>= f) = (pv P x).bind fun a => pv P (f a)
  | .pure a, f => rfl
  | .program k, f => pv_bind P (k P) f
  | .mark m k, f => pv_bind P k f
  | .load _ _ _, f | .store _ _ _ _, f | .new _ _, f | .shape _ _, f | .freeze _ _ _, f | .frozen _ _, f | .getObj _ _, f | .setObj _ _ _, f | .choose _ _, f | .sys _ _, f | .halt _, f => rfl

theorem pv_equal_bool (P : Program) (t : TypeId) (ht : P.underlying t = some .bool) (a b : Bool) : pv P (Op.equal t (.bool a) (.bool b)) = some (a == b) := by
  have h : ∀ n, pv P (Op.equalIn (n + 1) t (.bool a) (.bool b)) = some (a == b) := by
    intro n
    simp only [Op.equalIn, underlying]
    rw [pv_bind, pv_bind]
    simp only [program, pv, Option.bind_some, ht]
    rfl
  exact h 9999
theorem pv_beql (P : Program) (t : TypeId) (xo yo : Operand) (ht : P.underlying t = some .bool) (a b : Bool) : pv P (do eqGuard .eql t xo yo (.bool a) (.bool b); binOp .eql t (.bool a) (.bool b)) = some (.bool (a == b)) := by
  have h1 : pv P (binOp .eql t (.bool a) (.bool b)) = some (.bool (a == b)) := by
    show pv P (do let r ← Op.equal t (.bool a) (.bool b); pure (Value.bool r)) = _
    rw [pv_bind, pv_equal_bool P t ht]; rfl
  rw [pv_bind]
  show (some ()).bind _ = _
  exact h1
theorem pv_bneq (P : Program) (t : TypeId) (xo yo : Operand) (ht : P.underlying t = some .bool) (a b : Bool) : pv P (do eqGuard .neq t xo yo (.bool a) (.bool b); binOp .neq t (.bool a) (.bool b)) = some (.bool (a != b)) := by
  have h1 : pv P (binOp .neq t (.bool a) (.bool b)) = some (.bool (a != b)) := by
    show pv P (do let r ← Op.equal t (.bool a) (.bool b); pure (Value.bool !r)) = _
    rw [pv_bind, pv_equal_bool P t ht]; rfl
  rw [pv_bind]
  show (some ()).bind _ = _
  exact h1

theorem pv_seql (P : Program) (t : TypeId) (xo yo : Operand) (a b : ByteArray) : pv P (do eqGuard .eql t xo yo (.string a) (.string b); binOp .eql t (.string a) (.string b)) = some (.bool (a.toList == b.toList)) := rfl
theorem pv_sneq (P : Program) (t : TypeId) (xo yo : Operand) (a b : ByteArray) : pv P (do eqGuard .neq t xo yo (.string a) (.string b); binOp .neq t (.string a) (.string b)) = some (.bool !(a.toList == b.toList)) := rfl
theorem pv_slss (P : Program) (t : TypeId) (xo yo : Operand) (a b : ByteArray) : pv P (do eqGuard .lss t xo yo (.string a) (.string b); binOp .lss t (.string a) (.string b)) = some (.bool (Op.bytesLess a.toList b.toList)) := rfl
theorem pv_sgtr (P : Program) (t : TypeId) (xo yo : Operand) (a b : ByteArray) : pv P (do eqGuard .gtr t xo yo (.string a) (.string b); binOp .gtr t (.string a) (.string b)) = some (.bool !(Op.bytesLess a.toList b.toList || a.toList == b.toList)) := rfl

theorem pv_slen (P : Program) (t ty : TypeId) (ht : P.underlying t = some .string) (s : ByteArray) : pv P (Builtin.len_ #[t] ty #[.string s]) = some (goInt s.size) := by
  simp only [Builtin.len_, List.getElem?_toArray, List.getElem?_cons_zero, underlying, program, Bind.bind, Sem.bind, pv, ht]
  rfl
theorem pv_nillen (P : Program) (t ty e : TypeId) (ht : P.underlying t = some (.slice e)) : pv P (Builtin.len_ #[t] ty #[.slice none 0 0]) = some (goInt 0) := by
  simp only [Builtin.len_, List.getElem?_toArray, List.getElem?_cons_zero, underlying, program, Bind.bind, Sem.bind, pv, ht]
  rfl

theorem then_normal (K : AS → Prop) (Q : AExit → AS → Prop) (s : AS) : AExit.then K Q .normal s = K s := rfl
theorem then_ret (K : AS → Prop) (Q : AExit → AS → Prop) (s : AS) : AExit.then K Q .ret s = Q .ret s := rfl
theorem then_exit (K : AS → Prop) (Q : AExit → AS → Prop) (s : AS) (i : Nat) : AExit.then K Q (.exit i) s = Q (.exit i) s := rfl
theorem then_panic (K : AS → Prop) (Q : AExit → AS → Prop) (s : AS) (x : AV) : AExit.then K Q (.panic x) s = Q (.panic x) s := rfl
theorem block_normal (i : Nat) (Q : AExit → AS → Prop) (s : AS) : AExit.inBlock i Q .normal s = Q .normal s := rfl
theorem block_ret (i : Nat) (Q : AExit → AS → Prop) (s : AS) : AExit.inBlock i Q .ret s = Q .ret s := rfl
theorem block_panic (i : Nat) (Q : AExit → AS → Prop) (s : AS) (x : AV) : AExit.inBlock i Q (.panic x) s = Q (.panic x) s := rfl
theorem block_exit (i j : Nat) (Q : AExit → AS → Prop) (s : AS) : AExit.inBlock i Q (.exit j) s = if j = i then Q .normal s else Q (.exit j) s := rfl

end Go.Proofs.Ytplnbmldkgcedaa.Ab
namespace Go.Proofs.Ytplnbmldkgcedaa.Ab
theorem put_some (N : Nat) (tm : Nat → AV) (h : AH) (d : Nat) (x : AV) (hd : d < N) : AS.put N ⟨tm, h⟩ (some d) x = ⟨upd tm d x, h⟩ := if_pos hd
theorem opsW_nil (P : Program) (N : Nat) (ops : Array Oper) (K : AS → Prop) (E : AV → AS → Prop) (tm : Nat → AV) (h : AH) : OpsW P N ops [] K E ⟨tm, h⟩ = K ⟨tm, h⟩ := rfl
theorem opsW_cons (P : Program) (N : Nat) (ops : Array Oper) (o : Oper) (l : List Oper) (K : AS → Prop) (E : AV → AS → Prop) (tm : Nat → AV) (h : AH) : OpsW P N ops (o :: l) K E ⟨tm, h⟩ = (match awanted ops tm o with | some true => OpW P N o ⟨tm, h⟩ (OpsW P N ops l K E) E | some false => OpsW P N ops l K E (AS.put N ⟨tm, h⟩ o.dst (.v undef)) | none => False) := rfl
theorem put_none (N : Nat) (tm : Nat → AV) (h : AH) (x : AV) : AS.put N ⟨tm, h⟩ none x = ⟨tm, h⟩ := rfl
theorem upd_at (f : Nat → AV) (d t : Nat) (x : AV) : upd f d x t = if t = d then x else f t := rfl
theorem ev_tmp (tm : Nat → AV) (h : AH) (t : Nat) : AS.ev ⟨tm, h⟩ (.tmp t) = tm t := rfl
theorem ev_const (tm : Nat → AV) (h : AH) (v : Value) : AS.ev ⟨tm, h⟩ (.const v) = AV.ofV v := rfl
theorem ev_func (tm : Nat → AV) (h : AH) (f : FuncId) : AS.ev ⟨tm, h⟩ (.func f) = .fn (.func f) [] [] := rfl
end Go.Proofs.Ytplnbmldkgcedaa.Ab
namespace Go.Proofs.Ytplnbmldkgcedaa.Ab
theorem codeW_region_k {P : Program} {N : Nat} {Q : AExit → AS → Prop} {s : AS} {id : Nat} {ops : Array Oper}
    (H : ∀ (K : AS → Prop) (E : AV → AS → Prop), (∀ s, Q .normal s → K s) → (∀ r s, Q (.panic r) s → E r s) → OpsW P N ops ops.toList K E s) : CodeW P N (.region id ops false) Q s :=
  codeW_region (H _ _ (fun _ h => h) (fun _ _ h => h))
theorem codeW_seq_region {P : Program} {N : Nat} {Q : AExit → AS → Prop} {s : AS} {id : Nat} {ops : Array Oper} {y : Code}
    (H : ∀ (K : AS → Prop) (E : AV → AS → Prop), (∀ s, CodeW P N y Q s → K s) → (∀ r s, Q (.panic r) s → E r s) → OpsW P N ops ops.toList K E s) : CodeW P N (.seq (.region id ops false) y) Q s :=
  codeW_seq (codeW_region (H _ _ (fun _ h => h) (fun _ _ h => h)))
theorem to_then_normal {K : AS → Prop} {Q : AExit → AS → Prop} {s : AS} (h : K s) : AExit.then K Q .normal s := h
theorem to_then_ret {K : AS → Prop} {Q : AExit → AS → Prop} {s : AS} (h : Q .ret s) : AExit.then K Q .ret s := h
theorem to_then_exit {K : AS → Prop} {Q : AExit → AS → Prop} {s : AS} {i : Nat} (h : Q (.exit i) s) : AExit.then K Q (.exit i) s := h
theorem to_then_panic {K : AS → Prop} {Q : AExit → AS → Prop} {s : AS} {x : AV} (h : Q (.panic x) s) : AExit.then K Q (.panic x) s := h
theorem to_block_normal {i : Nat} {Q : AExit → AS → Prop} {s : AS} (h : Q .normal s) : AExit.inBlock i Q .normal s := h
theorem to_block_ret {i : Nat} {Q : AExit → AS → Prop} {s : AS} (h : Q .ret s) : AExit.inBlock i Q .ret s := h
theorem to_block_panic {i : Nat} {Q : AExit → AS → Prop} {s : AS} {x : AV} (h : Q (.panic x) s) : AExit.inBlock i Q (.panic x) s := h
theorem to_block_hit {i : Nat} {Q : AExit → AS → Prop} {s : AS} (h : Q .normal s) : AExit.inBlock i Q (.exit i) s := by
  rw [block_exit, if_pos rfl]; exact h
theorem to_block_miss {i j : Nat} {Q : AExit → AS → Prop} {s : AS} (hj : (j == i) = false) (h : Q (.exit j) s) : AExit.inBlock i Q (.exit j) s := by
  rw [block_exit, if_neg (by simpa using hj)]; exact h
end Go.Proofs.Ytplnbmldkgcedaa.Ab
