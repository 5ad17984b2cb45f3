/-
  Constraints, rules, keys, items as data; heads of rules.
-/
import Derived.Test.YtoccpldnegloaaaAbWb
import Derived.Test.YtoccpldnegloaaaAbThree
import Derived.Test.YtoccpldnegloaaaAbThree
set_option linter.unusedSimpArgs false
set_option linter.unusedVariables false
set_option maxHeartbeats 4000000
set_option maxRecDepth 4000
namespace Go.Proofs.Ytoccpldnegloaaa.Ab
open Go.Proofs

theorem callH_ret {P : Program} {N c : Nat} {fv : AV} {args : List AV} {s : AS} {d : Option Tmp} {K : AS → Prop} {r : AV} {h' : AH} (H : FunW P fv args s.h fun o h2 => o = .ret r ∧ h2 = h') (hk : c = 3 → Keep s.h h') (k : K (AS.put N { s with h := h' } d r)) : CallH P N c fv args s d K := ⟨r, h', H, hk, k⟩
theorem FunW.call {P : Program} {f : FuncId} {args : List AV} {h : AH} {Q : AOut → AH → Prop} (H : CallW P f args h Q) : FunW P (.fn (.func f) [] []) args h Q := FunW.fn (by rw [List.nil_append, List.append_nil]; exact H)
theorem FunW.ret {P : Program} {fv : AV} {args : List AV} {h h' : AH} {r : AV} {Q : AOut → AH → Prop} (H : FunW P fv args h fun o h2 => o = .ret r ∧ h2 = h') (k : Q (.ret r) h') : FunW P fv args h Q := H.mono (by rintro _ _ ⟨rfl, rfl⟩; exact k)

/-! rows of anything -/
def vs {X : Type} (f : X → AV) (l : List X) : List AV := l.map f
section
variable {X : Type} (f : X → AV)
theorem vs_length (l : List X) : (vs f l).length = l.length := List.length_map _
theorem vs_get {l : List X} {k : Nat} (h : k < l.length) : (vs f l)[k]? = some (f l[k]) := by
  rw [vs, List.getElem?_map, List.getElem?_eq_getElem h]; rfl
theorem vs_append (l m : List X) : vs f (l ++ m) = vs f l ++ vs f m := List.map_append
theorem vs_one (x : X) : vs f [x] = [f x] := rfl
theorem vs_nil : vs f [] = [] := rfl
theorem vs_cons (x : X) (l : List X) : vs f (x :: l) = f x :: vs f l := rfl
theorem vs_take (l : List X) (k : Nat) : (vs f l).take k = vs f (l.take k) := by simp only [vs, List.map_take]
theorem vs_drop (l : List X) (k : Nat) : (vs f l).drop k = vs f (l.drop k) := by simp only [vs, List.map_drop]
theorem vs_flat (n : Nat) (hf : ∀ x, ∀ a ∈ (f x).cells, Below n a) (l : List X) : ∀ a ∈ flat (vs f l), Below n a := by
  intro a ha
  simp only [flat, vs, List.mem_flatMap, List.mem_map] at ha
  obtain ⟨x, ⟨b, _, rfl⟩, hx⟩ := ha
  exact hf b a hx
theorem vs_below (n s : Nat) (hf : ∀ x, ∀ a ∈ (f x).cells, Below n a) (l : List X) : Below n (.sl s (vs f l) none) := .sl s _ none (vs_flat f n hf l) (fun b hb => by cases hb)
end

/-! constraints, goals, rules, keys, items -/
structure G where
  op : Int
  name : ByteArray
  args : List T
def G.atom (g : G) : AV := .agg [.v (.string g.name), .sl 4 (avs g.args) none]
def G.goal (g : G) : AV := .agg [.i g.op, .v (.string g.name), .sl 4 (avs g.args) none]
theorem atom_cells (g : G) : g.atom.cells = [.v (.string g.name), .sl 4 (avs g.args) none] := rfl
theorem atom_isAgg (g : G) : g.atom.isAgg = true := rfl
theorem atom_fold (g : G) : AV.agg [.v (.string g.name), .sl 4 (avs g.args) none] = g.atom := rfl
theorem goal_cells (g : G) : g.goal.cells = [.i g.op, .v (.string g.name), .sl 4 (avs g.args) none] := rfl
theorem atom_bel (n : Nat) (g : G) : ∀ a ∈ g.atom.cells, Below n a := by
  intro a ha
  rw [atom_cells] at ha
  simp only [List.mem_cons, List.not_mem_nil, or_false] at ha
  rcases ha with rfl | rfl
  · exact .v _
  · exact avs_below _ _
theorem goal_bel (n : Nat) (g : G) : ∀ a ∈ g.goal.cells, Below n a := by
  intro a ha
  rw [goal_cells] at ha
  simp only [List.mem_cons, List.not_mem_nil, or_false] at ha
  rcases ha with rfl | rfl | rfl
  · exact .v _
  · exact .v _
  · exact avs_below _ _
structure Rl where
  name : ByteArray
  keep : List G
  remove : List G
  guard : List G
  body : List G
  vars : Int
def Rl.av (r : Rl) : AV := .agg [.v (.string r.name), .sl 2 (vs G.atom r.keep) none, .sl 2 (vs G.atom r.remove) none, .sl 3 (vs G.goal r.guard) none, .sl 3 (vs G.goal r.body) none, .i r.vars]
theorem Rl.cells (r : Rl) : r.av.cells = [.v (.string r.name), .sl 2 (vs G.atom r.keep) none, .sl 2 (vs G.atom r.remove) none, .sl 3 (vs G.goal r.guard) none, .sl 3 (vs G.goal r.body) none, .i r.vars] := rfl
theorem Rl.isAgg (r : Rl) : r.av.isAgg = true := rfl
structure Ky where
  name : ByteArray
  arity : Int
  pos : List Int
def Ky.av (k : Ky) : AV := .agg [.v (.string k.name), .i k.arity, .sl 1 (ints k.pos) none]
theorem Ky.cells (k : Ky) : k.av.cells = [.v (.string k.name), .i k.arity, .sl 1 (ints k.pos) none] := rfl
theorem Ky.isAgg (k : Ky) : k.av.isAgg = true := rfl
theorem Ky.fold (k : Ky) : AV.agg [.v (.string k.name), .i k.arity, .sl 1 (ints k.pos) none] = k.av := rfl
theorem ints_bel (n : Nat) (l : List Int) : Below n (.sl 1 (ints l) none) := .sl 1 _ none (ints_flat n l) (fun b hb => by cases hb)
theorem Ky.bel (n : Nat) (k : Ky) : ∀ a ∈ k.av.cells, Below n a := by
  intro a ha
  rw [Ky.cells] at ha
  simp only [List.mem_cons, List.not_mem_nil, or_false] at ha
  rcases ha with rfl | rfl | rfl
  · exact .v _
  · exact .v _
  · exact ints_bel _ _
theorem Ky.below (n : Nat) (k : Ky) : Below n k.av := .agg _ (Ky.bel n k)
structure It where
  id : Int
  atom : G
def It.av (x : It) : AV := .agg [.i x.id, .v (.string x.atom.name), .sl 4 (avs x.atom.args) none]
theorem It.cells (x : It) : x.av.cells = [.i x.id, .v (.string x.atom.name), .sl 4 (avs x.atom.args) none] := rfl
theorem It.isAgg (x : It) : x.av.isAgg = true := rfl

/-! heads -/
theorem count_pure (r : Rl) (hb : r.keep.length + r.remove.length ≤ 1000000) : Pure Try.prog 34 [r.av] (.i ((r.keep.length + r.remove.length : Nat) : Int)) := by
  intro h
  have w : IntKind.i64.wrap ((r.keep.length : Int) + (r.remove.length : Int)) = ((r.keep.length + r.remove.length : Nat) : Int) := by rw [IntKind.wrap_i64]; omega
  refine callW_of_body Try.func34 rfl Try.call34 Try.ntmps34 (congrArg Array.toList Try.results34) (by simp) ?_
  repeat (first | ((first | (with_reducible refine codeW_seq_region (fun K E hK hE => ?_)) | (with_reducible refine codeW_region_k (fun K E hK hE => ?_))); simp -implicitDefEqProofs only [opsW_nil, opsW_cons, awanted, OpW, aop, undef, AS.ev, put_some, ofV_int, upd_at, initTm, List.getD_cons_zero, AV.cells1, List.all_cons, List.all_nil, cell1_int, cell1_str, cell1_sl, Bool.and_self, ↓reduceIte, List.length_cons, List.length_nil, Nat.reduceAdd, Nat.reduceLT, Nat.reduceEqDiff, Nat.zero_add, aFieldAddr, aLoad, aPart, aBin, aLen, hget0, List.getElem?_cons_zero, List.getElem?_cons_succ, Option.map_some, pv_add, goInt, ti33, un33, fi36_1, fi36_2, Rl.cells, vs_length, w]) | (with_reducible refine codeW_seq_k (fun K hK => ?_)) | (with_reducible refine codeW_block ?_) | (with_reducible refine codeW_ret ?_) | (with_reducible refine codeW_label ?_) | (with_reducible refine codeW_scope ?_) | (with_reducible refine codeW_skip ?_) | (with_reducible refine codeW_exit ?_) | (with_reducible refine to_then_normal ?_) | (with_reducible refine to_then_ret ?_) | (with_reducible refine to_then_exit ?_) | (with_reducible refine to_block_normal ?_) | (with_reducible refine to_block_ret ?_) | (with_reducible refine to_block_hit ?_) | (with_reducible refine to_block_miss rfl ?_) | ((with_reducible refine hK _ ?_); clear hK) | (clear hK; (with_reducible refine hK _ ?_); clear hK) | (clear hK; clear hK; (with_reducible refine hK _ ?_); clear hK) | (clear hK; clear hK; clear hK; (with_reducible refine hK _ ?_); clear hK) | (refine codeW_cond rfl ?_; simp only [↓reduceIte, Bool.false_eq_true]) | (intro (b : Bool); cases b))
  simp only [BodyQ, aResults, aResult, upd, ↓reduceIte, Option.some.injEq, exists_eq_left']; first | refine leaves_end (htake _ _) (.keep (.v _)) ⟨rfl, rfl⟩ | refine leaves_end List.take_length (.keep (.v _)) ⟨rfl, rfl⟩
theorem heads_pure (r : Rl) (hb : r.keep.length + r.remove.length ≤ 1000000) : Pure Try.prog 19 [r.av] (.sl 2 (vs G.atom (r.keep ++ r.remove)) none) := by
  intro h
  have c1 := count_pure r hb
  have b1 : r.keep.length + r.remove.length ≤ maxLen := by simp only [maxLen]; omega
  have b2 : (r.keep.length + r.remove.length) * 40 ≤ 140737488355328 := by omega
  have b3 : r.keep.length ≤ maxLen := by simp only [maxLen]; omega
  have b4 : r.keep.length * 40 ≤ 140737488355328 := by omega
  have he : elemInfo Try.prog 33 = some (47, 2) := by kernel_rfl
  have hi : infoOk Try.prog 47 2 40 = true := by kernel_rfl
  have mk : ∀ h : AH, aMake Try.prog 33 (.i 0) (.i ((r.keep.length + r.remove.length : Nat) : Int)) h = some (.sl 2 [] (some h.length), h ++ [.grow 47 2 0]) := fun h => aMake_eq he hi b1 b2
  refine callW_of_body Try.func19 rfl Try.call19 Try.ntmps19 (congrArg Array.toList Try.results19) (by simp) ?_
  repeat (first | ((first | (with_reducible refine codeW_seq_region (fun K E hK hE => ?_)) | (with_reducible refine codeW_region_k (fun K E hK hE => ?_)) | (with_reducible refine funW_pure c1 ?_) | (with_reducible refine callA_pure c1 ?_)); simp -implicitDefEqProofs only [opsW_nil, opsW_cons, awanted, OpW, contW, aop, undef, AS.ev, put_some, ofV_int, ofV_slice, upd_at, initTm, List.getD_cons_zero, AV.cells1, List.all_cons, List.all_nil, cell1_int, cell1_str, cell1_sl, Bool.and_self, ↓reduceIte, List.length_cons, List.length_nil, Nat.reduceAdd, Nat.reduceLT, Nat.reduceEqDiff, Nat.zero_add, and_self, aFieldAddr, aLoad, aPart, aAppend, srcOf, hget0, hget, hset, hlen, happ, List.getElem?_cons_zero, List.getElem?_cons_succ, List.set_cons_zero, List.set_cons_succ, Option.map_some, List.map_cons, List.map_nil, List.cons_append, List.nil_append, ti33, ai33, ti36, fi36_1, fi36_2, Rl.cells, Rl.isAgg, mk, vs_length, b1, b2, b3, b4]) | (with_reducible refine codeW_seq_k (fun K hK => ?_)) | (with_reducible refine codeW_block ?_) | (with_reducible refine codeW_ret ?_) | (with_reducible refine codeW_label ?_) | (with_reducible refine codeW_scope ?_) | (with_reducible refine codeW_skip ?_) | (with_reducible refine codeW_exit ?_) | (with_reducible refine to_then_normal ?_) | (with_reducible refine to_then_ret ?_) | (with_reducible refine to_then_exit ?_) | (with_reducible refine to_block_normal ?_) | (with_reducible refine to_block_ret ?_) | (with_reducible refine to_block_hit ?_) | (with_reducible refine to_block_miss rfl ?_) | ((with_reducible refine hK _ ?_); clear hK) | (clear hK; (with_reducible refine hK _ ?_); clear hK) | (clear hK; clear hK; (with_reducible refine hK _ ?_); clear hK) | (clear hK; clear hK; clear hK; (with_reducible refine hK _ ?_); clear hK) | (refine codeW_cond rfl ?_; simp only [↓reduceIte, Bool.false_eq_true]) | (intro (b : Bool); cases b))
  simp only [BodyQ, aResults, aResult, upd, ↓reduceIte, Option.some.injEq, exists_eq_left']
  rw [← vs_append]
  exact leaves_end (htake _ _) (.tok (vs_flat _ _ (atom_bel _) _)) ⟨rfl, rfl⟩
theorem refHeads_pure (r : Rl) (hb : r.keep.length + r.remove.length ≤ 1000000) : Pure Try.prog 22 [r.av] (.sl 2 (vs G.atom (r.keep ++ r.remove)) none) := by
  intro h
  have b1 : r.keep.length + r.remove.length ≤ maxLen := by simp only [maxLen]; omega
  have b2 : (r.keep.length + r.remove.length) * 40 ≤ 140737488355328 := by omega
  have b3 : r.keep.length ≤ maxLen := by simp only [maxLen]; omega
  have b4 : r.keep.length * 40 ≤ 140737488355328 := by omega
  refine callW_of_body Try.func22 rfl Try.call22 Try.ntmps22 (congrArg Array.toList Try.results22) (by simp) ?_
  iterate 4 (try (first | ((first | (with_reducible refine codeW_seq_region (fun K E hK hE => ?_)) | (with_reducible refine codeW_region_k (fun K E hK hE => ?_))); simp -implicitDefEqProofs only [opsW_nil, opsW_cons, awanted, OpW, aop, undef, AS.ev, put_some, ofV_slice, initTm, List.getD_cons_zero, AV.cells1, List.all_cons, List.all_nil, cell1_int, cell1_str, cell1_sl, Bool.and_self, ↓reduceIte, List.length_cons, List.length_nil, Nat.reduceAdd, Nat.reduceLT, Nat.zero_add, Rl.cells]) | (with_reducible refine codeW_seq_k (fun K hK => ?_)) | (with_reducible refine codeW_block ?_) | (with_reducible refine codeW_ret ?_) | (with_reducible refine codeW_label ?_) | (with_reducible refine codeW_scope ?_) | (with_reducible refine codeW_skip ?_) | (with_reducible refine codeW_exit ?_) | (with_reducible refine to_then_normal ?_) | (with_reducible refine to_then_ret ?_) | (with_reducible refine to_then_exit ?_) | (with_reducible refine to_block_normal ?_) | (with_reducible refine to_block_ret ?_) | (with_reducible refine to_block_hit ?_) | (with_reducible refine to_block_miss rfl ?_) | ((with_reducible refine hK _ ?_); clear hK) | (clear hK; (with_reducible refine hK _ ?_); clear hK) | (clear hK; clear hK; (with_reducible refine hK _ ?_); clear hK) | (clear hK; clear hK; clear hK; (with_reducible refine hK _ ?_); clear hK) | (refine codeW_cond rfl ?_; simp only [↓reduceIte, Bool.false_eq_true]) | (intro (b : Bool); cases b)))
  refine codeW_token 3 47 2 rfl ?_
  repeat (first | ((first | (with_reducible refine codeW_seq_region (fun K E hK hE => ?_)) | (with_reducible refine codeW_region_k (fun K E hK hE => ?_))); simp -implicitDefEqProofs only [opsW_nil, opsW_cons, awanted, OpW, aop, AS.ev, put_some, upd_at, ↓reduceIte, List.length_cons, List.length_nil, Nat.reduceLT, Nat.reduceEqDiff, Nat.zero_add, and_self, aFieldAddr, aLoad, aPart, aAppend, srcOf, hget0, hget, hset, hlen, happ, List.getElem?_cons_zero, List.getElem?_cons_succ, List.set_cons_zero, List.set_cons_succ, Option.map_some, List.cons_append, List.nil_append, ti33, ai33, fi36_1, fi36_2, Rl.cells, vs_length, b1, b2, b3, b4]) | (with_reducible refine codeW_seq_k (fun K hK => ?_)) | (with_reducible refine codeW_block ?_) | (with_reducible refine codeW_ret ?_) | (with_reducible refine codeW_label ?_) | (with_reducible refine codeW_scope ?_) | (with_reducible refine codeW_skip ?_) | (with_reducible refine codeW_exit ?_) | (with_reducible refine to_then_normal ?_) | (with_reducible refine to_then_ret ?_) | (with_reducible refine to_then_exit ?_) | (with_reducible refine to_block_normal ?_) | (with_reducible refine to_block_ret ?_) | (with_reducible refine to_block_hit ?_) | (with_reducible refine to_block_miss rfl ?_) | ((with_reducible refine hK _ ?_); clear hK) | (clear hK; (with_reducible refine hK _ ?_); clear hK) | (clear hK; clear hK; (with_reducible refine hK _ ?_); clear hK) | (clear hK; clear hK; clear hK; (with_reducible refine hK _ ?_); clear hK) | (refine codeW_cond rfl ?_; simp only [↓reduceIte, Bool.false_eq_true]) | (intro (b : Bool); cases b))
  simp only [BodyQ, aResults, aResult, upd, ↓reduceIte, Option.some.injEq, exists_eq_left']
  rw [← vs_append]
  exact leaves_end (htake _ _) (.tok (vs_flat _ _ (atom_bel _) _)) ⟨rfl, rfl⟩
theorem propagation_pure (r : Rl) : Pure Try.prog 20 [r.av] (.b ((r.remove.length : Int) == 0)) := by
  intro h
  refine callW_of_body Try.func20 rfl Try.call20 Try.ntmps20 (congrArg Array.toList Try.results20) (by simp) ?_
  repeat (first | ((first | (with_reducible refine codeW_seq_region (fun K E hK hE => ?_)) | (with_reducible refine codeW_region_k (fun K E hK hE => ?_))); simp -implicitDefEqProofs only [opsW_nil, opsW_cons, awanted, OpW, aop, undef, AS.ev, put_some, ofV_int, ofV_bool, upd_at, initTm, List.getD_cons_zero, AV.cells1, List.all_cons, List.all_nil, cell1_int, cell1_str, cell1_sl, Bool.and_self, ↓reduceIte, List.length_cons, List.length_nil, Nat.reduceAdd, Nat.reduceLT, Nat.reduceEqDiff, Nat.zero_add, aFieldAddr, aLoad, aPart, aBin, aLen, hget0, List.getElem?_cons_zero, List.getElem?_cons_succ, Option.map_some, pv_eql, goInt, ti33, un33, fi36_2, Rl.cells, vs_length]) | (with_reducible refine codeW_seq_k (fun K hK => ?_)) | (with_reducible refine codeW_block ?_) | (with_reducible refine codeW_ret ?_) | (with_reducible refine codeW_label ?_) | (with_reducible refine codeW_scope ?_) | (with_reducible refine codeW_skip ?_) | (with_reducible refine codeW_exit ?_) | (with_reducible refine to_then_normal ?_) | (with_reducible refine to_then_ret ?_) | (with_reducible refine to_then_exit ?_) | (with_reducible refine to_block_normal ?_) | (with_reducible refine to_block_ret ?_) | (with_reducible refine to_block_hit ?_) | (with_reducible refine to_block_miss rfl ?_) | ((with_reducible refine hK _ ?_); clear hK) | (clear hK; (with_reducible refine hK _ ?_); clear hK) | (clear hK; clear hK; (with_reducible refine hK _ ?_); clear hK) | (clear hK; clear hK; clear hK; (with_reducible refine hK _ ?_); clear hK) | (refine codeW_cond rfl ?_; simp only [↓reduceIte, Bool.false_eq_true]) | (intro (b : Bool); cases b))
  simp only [BodyQ, aResults, aResult, upd, ↓reduceIte, Option.some.injEq, exists_eq_left']; first | refine leaves_end (htake _ _) (.keep (.v _)) ⟨rfl, rfl⟩ | refine leaves_end List.take_length (.keep (.v _)) ⟨rfl, rfl⟩
end Go.Proofs.Ytoccpldnegloaaa.Ab
