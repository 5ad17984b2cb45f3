/-
  Holds computes holdsB, in the program and in the specification.
-/
import Derived.Test.YtoccpldnegloaaaAbD9
import Derived.Test.YtoccpldnegloaaaAbDa
set_option linter.unusedSimpArgs false
set_option linter.unusedVariables false
set_option maxHeartbeats 4000000
set_option maxRecDepth 4000
-- @lean
namespace Go.Proofs.Ytoccpldnegloaaa.Ab
open Go.Proofs

/-! does a store satisfy a key -/
def agreeIx (l : List It) (k : Ky) (i j : Nat) : Bool := match l[i]?, l[j]? with
  | some x, some y => agreeB x.atom y.atom k
  | _, _ => false
def holdsB (l : List It) (k : Ky) : Bool := (List.range l.length).all fun i => (List.range i).all fun j => !agreeIx l k i j
theorem agreeIx_get {l : List It} {k : Ky} {i j : Nat} (hi : i < l.length) (hj : j < l.length) : agreeIx l k i j = agreeB (l[i]).atom (l[j]).atom k := by
  rw [agreeIx, List.getElem?_eq_getElem hi, List.getElem?_eq_getElem hj]
theorem holdsB_true {l : List It} {k : Ky} : holdsB l k = true ↔ ∀ i, i < l.length → ∀ j, j < i → agreeIx l k i j = false := by
  simp only [holdsB, List.all_eq_true, List.mem_range, Bool.not_eq_true']
theorem holdsB_not {l : List It} {k : Ky} {i j : Nat} (hi : i < l.length) (hj : j < i) (h : agreeIx l k i j = true) : holdsB l k = false := by
  cases hb : holdsB l k with
  | false => rfl
  | true => have := holdsB_true.1 hb i hi j hj; rw [h] at this; cases this

theorem slice_toIt (l : List It) (k : Nat) (hk : k ≤ l.length) (h : AH) : aSlice Try.prog 41 (.sl 3 (vs It.av l) none) none (some (.i k)) h = some (.sl 3 (vs It.av (l.take k)) none) := by
  have he : elemInfo Try.prog 41 = some (51, 3) := by kernel_rfl
  simp only [aSlice, he, boundOf]
  rw [if_pos ⟨trivial, by omega, by omega, by rw [vs_length]; omega⟩]
  split
  · rename_i hh
    rw [vs_length] at hh
    have : k = l.length := by omega
    rw [this, List.take_length]
  · have : ((k : Int) - ((0 : Nat) : Int)).toNat = k := by omega
    rw [this]
    show some (AV.sl 3 (((vs It.av l).drop 0).take k) none) = _
    rw [List.drop_zero, vs_take]

theorem holds_pure (l : List It) (k : Ky) (hl : l.length ≤ 1000000) (hb : k.pos.length ≤ 1000000) (ha : ∀ x ∈ l, ∀ t ∈ x.atom.args, t.nds ≤ 1000000) : Pure Try.prog 16 [.sl 3 (vs It.av l) none, k.av] (.b (holdsB l k)) := by
  intro h
  refine callW_of_body Try.func16 rfl Try.call16 Try.ntmps16 (congrArg Array.toList Try.results16) (by simp) ?_
  repeat (first | ((first | (with_reducible refine codeW_seq_region (fun K E hK hE => ?_)) | (with_reducible refine codeW_region_k (fun K E hK hE => ?_))); simp -implicitDefEqProofs only [opsW_nil, opsW_cons, awanted, OpW, aop, undef, AS.ev, put_some, ofV_int, ofV_bool, upd_at, initTm, List.getD_cons_zero, List.getD_cons_succ, AV.cells1, List.all_cons, List.all_nil, cell1_int, cell1_str, cell1_sl, Bool.and_self, ↓reduceIte, List.length_cons, List.length_nil, Nat.reduceAdd, Nat.reduceLT, Nat.reduceEqDiff, Nat.zero_add, aLen, Option.map_some, goInt, un41, vs_length, Ky.cells]) | (with_reducible refine codeW_seq_k (fun K hK => ?_)) | (with_reducible refine codeW_block ?_) | (with_reducible refine codeW_ret ?_) | (with_reducible refine codeW_label ?_) | (with_reducible refine codeW_scope ?_) | (with_reducible refine codeW_skip ?_) | (with_reducible refine codeW_exit ?_) | (with_reducible refine to_then_normal ?_) | (with_reducible refine to_then_ret ?_) | (with_reducible refine to_then_exit ?_) | (with_reducible refine to_block_normal ?_) | (with_reducible refine to_block_ret ?_) | (with_reducible refine to_block_hit ?_) | (with_reducible refine to_block_miss rfl ?_) | ((with_reducible refine hK _ ?_); clear hK) | (clear hK; (with_reducible refine hK _ ?_); clear hK) | (clear hK; clear hK; (with_reducible refine hK _ ?_); clear hK) | (clear hK; clear hK; clear hK; (with_reducible refine hK _ ?_); clear hK) | (refine codeW_cond rfl ?_; simp only [↓reduceIte, Bool.false_eq_true]) | (intro (b : Bool); cases b))
  obtain ⟨I, hI⟩ : ∃ I : Nat → AS → Prop, I = fun m' s => ∃ (i : Nat) (H : AH), m' = l.length - i ∧ i ≤ l.length ∧ (∀ i', i' < i → ∀ j, j < i' → agreeIx l k i' j = false) ∧ H.take h.length = h ∧ H[h.length]? = some (.cells 30 3 [k.av]) ∧ s.tm 0 = .sl 3 (vs It.av l) none ∧ s.tm 3 = .ptr h.length 0 0 ∧ s.tm 9 = .sl 3 (vs It.av l) none ∧ s.tm 10 = .i l.length ∧ s.tm 11 = .i i ∧ s.h = H := ⟨_, rfl⟩; refine codeW_loop I ?_ (m := l.length) ?_
  · intro m' s hs; rw [hI] at hs; obtain ⟨tm, hp⟩ := s; dsimp only at hs; obtain ⟨i, H, rfl, hi, hok, hH, hK0, t0, t3, t9, t10, t11, rfl⟩ := hs
    have hHl := lt_of_get hK0
    have htk : ∀ M : AH, (hp ++ M).take h.length = h := fun M => by rw [List.take_append_of_le_length (by omega)]; exact hH
    by_cases hlt : i < l.length
    · have hsl := fun h => slice_toIt l i (by omega) h
      have hti : (l.take i).length = i := by rw [List.length_take]; omega
      repeat (first | ((first | (with_reducible refine codeW_seq_region (fun K E hK hE => ?_)) | (with_reducible refine codeW_region_k (fun K E hK hE => ?_))); simp -implicitDefEqProofs only [opsW_nil, opsW_cons, awanted, OpW, aop, undef, AS.ev, put_some, put_none, ofV_int, upd_at, AV.cells1, cells_agg, isAgg_agg, List.all_cons, List.all_nil, cell1_int, cell1_str, cell1_slice, cell1_sl, Bool.and_self, ↓reduceIte, List.length_cons, List.length_nil, Nat.reduceAdd, Nat.reduceLT, Nat.reduceEqDiff, Nat.zero_add, and_self, aLoad, aPart, aStore, aSetPart, aIndexAddr, aBin, aLen, hget0, hset0, List.getElem?_cons_zero, List.set_cons_zero, Option.map_some, Option.map_none, pv_lss, goInt, decide_true, Int.toNat_natCast, Int.natCast_nonneg, Int.ofNat_lt, ei41, un41, ti51, zi51, t0, t9, t10, t11, hlt, vs_length, vs_get It.av hlt, It.cells, It.isAgg, hsl, hti]) | (with_reducible refine codeW_seq_k (fun K hK => ?_)) | (with_reducible refine codeW_block ?_) | (with_reducible refine codeW_ret ?_) | (with_reducible refine codeW_label ?_) | (with_reducible refine codeW_scope ?_) | (with_reducible refine codeW_skip ?_) | (with_reducible refine codeW_exit ?_) | (with_reducible refine to_then_normal ?_) | (with_reducible refine to_then_ret ?_) | (with_reducible refine to_then_exit ?_) | (with_reducible refine to_block_normal ?_) | (with_reducible refine to_block_ret ?_) | (with_reducible refine to_block_hit ?_) | (with_reducible refine to_block_miss rfl ?_) | ((with_reducible refine hK _ ?_); clear hK) | (clear hK; (with_reducible refine hK _ ?_); clear hK) | (clear hK; clear hK; (with_reducible refine hK _ ?_); clear hK) | (clear hK; clear hK; clear hK; (with_reducible refine hK _ ?_); clear hK) | (refine codeW_cond rfl ?_; simp only [↓reduceIte]) | (intro (b : Bool); cases b))
      have hI0 := hI
      obtain ⟨I, hI⟩ : ∃ I : Nat → AS → Prop, I = fun m' s => ∃ (j : Nat) (M : AH), m' = i - j ∧ j ≤ i ∧ (∀ j', j' < j → agreeIx l k i j' = false) ∧ s.tm 0 = .sl 3 (vs It.av l) none ∧ s.tm 3 = .ptr h.length 0 0 ∧ s.tm 6 = .ptr hp.length 0 0 ∧ s.tm 9 = .sl 3 (vs It.av l) none ∧ s.tm 10 = .i l.length ∧ s.tm 11 = .i i ∧ s.tm 18 = .sl 3 (vs It.av (l.take i)) none ∧ s.tm 19 = .i i ∧ s.tm 20 = .i j ∧ s.h = hp ++ ([.cells 51 3 [(l[i]).av]] ++ M) := ⟨_, rfl⟩; refine codeW_loop I ?_ (m := i) ?_
      · generalize hp = H at *
        intro m' s hs; rw [hI] at hs; obtain ⟨tm, hp⟩ := s; dsimp only at hs; obtain ⟨j, M, rfl, hj, hok2, t0, t3, t6, t9, t10, t11, t18, t19, t20, rfl⟩ := hs
        have hx : ∀ M : AH, (H ++ M)[h.length]? = some (.cells 30 3 [k.av]) := fun M => hext hK0 M
        by_cases hlt2 : j < i
        · have hlt3 : j < l.length := by omega
          have hlt4 : j < (l.take i).length := by omega
          have hge : (l.take i)[j] = l[j] := List.getElem_take
          have hg := vs_get It.av hlt4
          rw [hge] at hg
          have c := agree_pure (l[i]).atom (l[j]).atom k (by assumption) (ha _ (List.getElem_mem hlt))
          have hix := agreeIx_get (k := k) hlt hlt3
          cases hc : agreeB (l[i]).atom (l[j]).atom k with
          | true =>
            rw [hc] at c hix
            have hf := holdsB_not hlt hlt2 hix
            repeat (first | ((first | (with_reducible refine codeW_seq_region (fun K E hK hE => ?_)) | (with_reducible refine codeW_region_k (fun K E hK hE => ?_)) | (with_reducible refine funW_pure c ?_) | (with_reducible refine callA_pure c ?_)); simp -implicitDefEqProofs only [opsW_nil, opsW_cons, awanted, OpW, contW, aop, undef, AS.ev, put_some, put_none, ofV_bool, upd_at, AV.cells1, cells_agg, isAgg_agg, List.all_cons, List.all_nil, cell1_int, cell1_str, cell1_slice, cell1_sl, Bool.and_self, ↓reduceIte, List.length_cons, List.length_nil, Nat.reduceAdd, Nat.reduceLT, Nat.reduceLeDiff, Nat.reduceEqDiff, Nat.zero_add, true_and, and_self, aFieldAddr, aLoad, aPart, aStore, aSetPart, aIndexAddr, aBin, hget0, hget, hset0, hset, hlen, happ, List.getElem?_cons_zero, List.getElem?_cons_succ, List.set_cons_zero, List.set_cons_succ, Option.map_some, List.map_cons, List.map_nil, List.cons_append, List.nil_append, List.take_succ_cons, List.take_zero, List.drop_succ_cons, List.drop_zero, pv_lss, decide_true, Int.toNat_natCast, Int.natCast_nonneg, Int.ofNat_lt, ti30, ei41, ti47, ti51, fi51_1, zi51, t3, t6, t18, t19, t20, hlt2, hti, vs_length, hg, It.cells, It.isAgg, Ky.cells, Ky.isAgg, hx, atom_fold]) | (with_reducible refine codeW_seq_k (fun K hK => ?_)) | (with_reducible refine codeW_block ?_) | (with_reducible refine codeW_ret ?_) | (with_reducible refine codeW_label ?_) | (with_reducible refine codeW_scope ?_) | (with_reducible refine codeW_skip ?_) | (with_reducible refine codeW_exit ?_) | (with_reducible refine to_then_normal ?_) | (with_reducible refine to_then_ret ?_) | (with_reducible refine to_then_exit ?_) | (with_reducible refine to_block_normal ?_) | (with_reducible refine to_block_ret ?_) | (with_reducible refine to_block_hit ?_) | (with_reducible refine to_block_miss rfl ?_) | ((with_reducible refine hK _ ?_); clear hK) | (clear hK; (with_reducible refine hK _ ?_); clear hK) | (clear hK; clear hK; (with_reducible refine hK _ ?_); clear hK) | (clear hK; clear hK; clear hK; (with_reducible refine hK _ ?_); clear hK) | (refine codeW_cond rfl ?_; simp only [↓reduceIte]) | (intro (b : Bool); cases b))
            simp only [BodyQ, aResults, aResult, upd, ↓reduceIte, Option.some.injEq, exists_eq_left']
            exact leaves_end (htk _) (.keep (.v _)) ⟨by rw [hf], rfl⟩
          | false =>
            rw [hc] at c hix
            repeat (first | ((first | (with_reducible refine codeW_seq_region (fun K E hK hE => ?_)) | (with_reducible refine codeW_region_k (fun K E hK hE => ?_)) | (with_reducible refine funW_pure c ?_) | (with_reducible refine callA_pure c ?_)); simp -implicitDefEqProofs only [opsW_nil, opsW_cons, awanted, OpW, contW, aop, undef, AS.ev, put_some, put_none, ofV_int, upd_at, AV.cells1, cells_agg, isAgg_agg, List.all_cons, List.all_nil, cell1_int, cell1_str, cell1_slice, cell1_sl, Bool.and_self, ↓reduceIte, List.length_cons, List.length_nil, Nat.reduceAdd, Nat.reduceLT, Nat.reduceLeDiff, Nat.reduceEqDiff, Nat.zero_add, true_and, and_self, aFieldAddr, aLoad, aPart, aStore, aSetPart, aIndexAddr, aBin, hget0, hget, hset0, hset, hlen, happ, List.getElem?_cons_zero, List.getElem?_cons_succ, List.set_cons_zero, List.set_cons_succ, Option.map_some, List.map_cons, List.map_nil, List.cons_append, List.nil_append, List.take_succ_cons, List.take_zero, List.drop_succ_cons, List.drop_zero, pv_lss, pv_add, decide_true, Int.toNat_natCast, Int.natCast_nonneg, Int.ofNat_lt, ti30, ei41, ti47, ti51, fi51_1, zi51, t3, t6, t18, t19, t20, hlt2, hti, vs_length, hg, It.cells, It.isAgg, Ky.cells, Ky.isAgg, hx, atom_fold]) | (with_reducible refine codeW_seq_k (fun K hK => ?_)) | (with_reducible refine codeW_block ?_) | (with_reducible refine codeW_ret ?_) | (with_reducible refine codeW_label ?_) | (with_reducible refine codeW_scope ?_) | (with_reducible refine codeW_skip ?_) | (with_reducible refine codeW_exit ?_) | (with_reducible refine to_then_normal ?_) | (with_reducible refine to_then_ret ?_) | (with_reducible refine to_then_exit ?_) | (with_reducible refine to_block_normal ?_) | (with_reducible refine to_block_ret ?_) | (with_reducible refine to_block_hit ?_) | (with_reducible refine to_block_miss rfl ?_) | ((with_reducible refine hK _ ?_); clear hK) | (clear hK; (with_reducible refine hK _ ?_); clear hK) | (clear hK; clear hK; (with_reducible refine hK _ ?_); clear hK) | (clear hK; clear hK; clear hK; (with_reducible refine hK _ ?_); clear hK) | (refine codeW_cond rfl ?_; simp only [↓reduceIte, Bool.false_eq_true]) | (intro (b : Bool); cases b))
            refine Onward.mk (m' := i - (j + 1)) (by omega) ?_
            rw [hI]
            refine ⟨j + 1, _, rfl, hlt2, fun j' hj' => ?_, t0, t3, t6, t9, t10, t11, t18, t19, ?_, rfl⟩
            · rcases Nat.lt_or_ge j' j with h' | h'
              · exact hok2 j' h'
              · have : j' = j := by omega
                subst this; exact hix
            · simp only [upd, ↓reduceIte]
              rw [wrap_nat (by omega)]
        · have hji : j = i := by omega
          repeat (first | ((first | (with_reducible refine codeW_seq_region (fun K E hK hE => ?_)) | (with_reducible refine codeW_region_k (fun K E hK hE => ?_))); simp -implicitDefEqProofs only [opsW_nil, opsW_cons, awanted, OpW, aop, AS.ev, put_some, ofV_int, upd_at, ↓reduceIte, Nat.reduceLT, Nat.reduceEqDiff, aBin, Option.map_some, List.cons_append, List.nil_append, pv_lss, pv_add, decide_false, Int.ofNat_lt, t11, t19, t20, hlt2]) | (with_reducible refine codeW_seq_k (fun K hK => ?_)) | (with_reducible refine codeW_block ?_) | (with_reducible refine codeW_ret ?_) | (with_reducible refine codeW_label ?_) | (with_reducible refine codeW_scope ?_) | (with_reducible refine codeW_skip ?_) | (with_reducible refine codeW_exit ?_) | (with_reducible refine to_then_normal ?_) | (with_reducible refine to_then_ret ?_) | (with_reducible refine to_then_exit ?_) | (with_reducible refine to_block_normal ?_) | (with_reducible refine to_block_ret ?_) | (with_reducible refine to_block_hit ?_) | (with_reducible refine to_block_miss rfl ?_) | ((with_reducible refine hK _ ?_); clear hK) | (clear hK; (with_reducible refine hK _ ?_); clear hK) | (clear hK; clear hK; (with_reducible refine hK _ ?_); clear hK) | (clear hK; clear hK; clear hK; (with_reducible refine hK _ ?_); clear hK) | (refine codeW_cond rfl ?_; simp only [↓reduceIte, Bool.false_eq_true]) | (intro (b : Bool); cases b))
          refine Onward.mk (m' := l.length - (i + 1)) (by omega) ?_
          rw [hI0]
          refine ⟨i + 1, _, rfl, hlt, fun i' hi' => ?_, htk _, hx _, t0, t3, t9, t10, ?_, rfl⟩
          · rcases Nat.lt_or_ge i' i with h' | h'
            · exact hok i' h'
            · have : i' = i := by omega
              subst this
              exact fun j2 hj2 => hok2 j2 (by omega)
          · simp only [upd, ↓reduceIte]
            rw [wrap_nat (by omega)]
      · rw [hI]
        exact ⟨0, [], by omega, Nat.zero_le _, fun j' hj' => by omega, t0, t3, rfl, t9, t10, t11, rfl, rfl, rfl, rfl⟩
    · have hil : i = l.length := by omega
      have hf : holdsB l k = true := holdsB_true.2 fun i' hi' j hj => hok i' (by omega) j hj
      repeat (first | ((first | (with_reducible refine codeW_seq_region (fun K E hK hE => ?_)) | (with_reducible refine codeW_region_k (fun K E hK hE => ?_))); simp -implicitDefEqProofs only [opsW_nil, opsW_cons, awanted, OpW, aop, AS.ev, put_some, ofV_bool, Nat.reduceLT, aBin, Option.map_some, pv_lss, decide_false, Int.ofNat_lt, t10, t11, hlt]) | (with_reducible refine codeW_seq_k (fun K hK => ?_)) | (with_reducible refine codeW_block ?_) | (with_reducible refine codeW_ret ?_) | (with_reducible refine codeW_label ?_) | (with_reducible refine codeW_scope ?_) | (with_reducible refine codeW_skip ?_) | (with_reducible refine codeW_exit ?_) | (with_reducible refine to_then_normal ?_) | (with_reducible refine to_then_ret ?_) | (with_reducible refine to_then_exit ?_) | (with_reducible refine to_block_normal ?_) | (with_reducible refine to_block_ret ?_) | (with_reducible refine to_block_hit ?_) | (with_reducible refine to_block_miss rfl ?_) | ((with_reducible refine hK _ ?_); clear hK) | (clear hK; (with_reducible refine hK _ ?_); clear hK) | (clear hK; clear hK; (with_reducible refine hK _ ?_); clear hK) | (clear hK; clear hK; clear hK; (with_reducible refine hK _ ?_); clear hK) | (refine codeW_cond rfl ?_; simp only [↓reduceIte, Bool.false_eq_true]) | (intro (b : Bool); cases b))
      simp only [BodyQ, aResults, aResult, upd, ↓reduceIte, Option.some.injEq, exists_eq_left']
      exact leaves_end hH (.keep (.v _)) ⟨by rw [hf], rfl⟩
  · rw [hI]
    exact ⟨0, _, by omega, Nat.zero_le _, fun i' hi' => by omega, htake _ _, by rw [hget0]; rfl, rfl, rfl, rfl, rfl, rfl, rfl⟩

theorem refHolds_pure (l : List It) (k : Ky) (hl : l.length ≤ 1000000) (hb : k.pos.length ≤ 1000000) (ha : ∀ x ∈ l, ∀ t ∈ x.atom.args, t.nds ≤ 1000000) : Pure Try.prog 17 [.sl 3 (vs It.av l) none, k.av] (.b (holdsB l k)) := by
  intro h
  refine callW_of_body Try.func17 rfl Try.call17 Try.ntmps17 (congrArg Array.toList Try.results17) (by simp) ?_
  repeat (first | ((first | (with_reducible refine codeW_seq_region (fun K E hK hE => ?_)) | (with_reducible refine codeW_region_k (fun K E hK hE => ?_)) | (refine codeW_seq_any (id := 7) [(0, 0), (1, 0), (2, 0), (3, 0), (4, 0), (5, 0), (6, 0), (7, 0), (8, 0), (9, 0), (10, 0), (11, 1)] mixed (by kernel_rfl) (fun K hK => ?_)) | (refine codeW_region_any (id := 7) [(0, 0), (1, 0), (2, 0), (3, 0), (4, 0), (5, 0), (6, 0), (7, 0), (8, 0), (9, 0), (10, 0), (11, 1)] mixed (by kernel_rfl) (fun K hK => ?_))); simp -implicitDefEqProofs only [opsW_nil, opsW_cons, awanted, OpW, aop, undef, AS.ev, put_some, ofV_int, ofV_bool, initTm, List.getD_cons_zero, List.getD_cons_succ, AV.cells1, List.all_cons, List.all_nil, cell1_int, cell1_str, cell1_sl, Bool.and_self, ↓reduceIte, List.length_cons, List.length_nil, Nat.reduceAdd, Nat.reduceLT, Nat.zero_add, Ky.cells]) | (with_reducible refine codeW_seq_k (fun K hK => ?_)) | (with_reducible refine codeW_block ?_) | (with_reducible refine codeW_ret ?_) | (with_reducible refine codeW_label ?_) | (with_reducible refine codeW_scope ?_) | (with_reducible refine codeW_skip ?_) | (with_reducible refine codeW_exit ?_) | (with_reducible refine to_then_normal ?_) | (with_reducible refine to_then_ret ?_) | (with_reducible refine to_then_exit ?_) | (with_reducible refine to_block_normal ?_) | (with_reducible refine to_block_ret ?_) | (with_reducible refine to_block_hit ?_) | (with_reducible refine to_block_miss rfl ?_) | ((with_reducible refine hK _ ?_); clear hK) | (clear hK; (with_reducible refine hK _ ?_); clear hK) | (clear hK; clear hK; (with_reducible refine hK _ ?_); clear hK) | (clear hK; clear hK; clear hK; (with_reducible refine hK _ ?_); clear hK) | (refine codeW_cond rfl ?_; simp only [↓reduceIte, Bool.false_eq_true]) | (intro (b : Bool); cases b))
  obtain ⟨I, hI⟩ : ∃ I : Nat → AS → Prop, I = fun m' s => ∃ (i : Nat), m' = l.length - i ∧ i ≤ l.length ∧ (∀ i', i' < i → ∀ j, j < i' → agreeIx l k i' j = false) ∧ s.tm 0 = .sl 3 (vs It.av l) none ∧ s.tm 3 = .ptr h.length 0 0 ∧ s.tm 5 = .i i ∧ s.h = h ++ [.cells 30 3 [k.av]] := ⟨_, rfl⟩; refine codeW_loop I ?_ (m := l.length) ?_
  · intro m' s hs; rw [hI] at hs; obtain ⟨tm, hp⟩ := s; dsimp only at hs; obtain ⟨i, rfl, hi, hok, t0, t3, t5, rfl⟩ := hs
    by_cases hlt : i < l.length
    · repeat (first | ((first | (with_reducible refine codeW_seq_region (fun K E hK hE => ?_)) | (with_reducible refine codeW_region_k (fun K E hK hE => ?_)) | (refine codeW_seq_any (id := 7) [(0, 0), (1, 0), (2, 0), (3, 0), (4, 0), (5, 0), (6, 0), (7, 0), (8, 0), (9, 0), (10, 0), (11, 1)] mixed (by kernel_rfl) (fun K hK => ?_)) | (refine codeW_region_any (id := 7) [(0, 0), (1, 0), (2, 0), (3, 0), (4, 0), (5, 0), (6, 0), (7, 0), (8, 0), (9, 0), (10, 0), (11, 1)] mixed (by kernel_rfl) (fun K hK => ?_))); simp -implicitDefEqProofs only [opsW_nil, opsW_cons, awanted, OpW, aop, AS.ev, put_some, ofV_int, upd_at, ↓reduceIte, Nat.reduceLT, Nat.reduceEqDiff, aBin, aLen, Option.map_some, pv_lss, goInt, decide_true, Int.ofNat_lt, un41, t0, t5, hlt, vs_length]) | (with_reducible refine codeW_seq_k (fun K hK => ?_)) | (with_reducible refine codeW_block ?_) | (with_reducible refine codeW_ret ?_) | (with_reducible refine codeW_label ?_) | (with_reducible refine codeW_scope ?_) | (with_reducible refine codeW_skip ?_) | (with_reducible refine codeW_exit ?_) | (with_reducible refine to_then_normal ?_) | (with_reducible refine to_then_ret ?_) | (with_reducible refine to_then_exit ?_) | (with_reducible refine to_block_normal ?_) | (with_reducible refine to_block_ret ?_) | (with_reducible refine to_block_hit ?_) | (with_reducible refine to_block_miss rfl ?_) | ((with_reducible refine hK _ ?_); clear hK) | (clear hK; (with_reducible refine hK _ ?_); clear hK) | (clear hK; clear hK; (with_reducible refine hK _ ?_); clear hK) | (clear hK; clear hK; clear hK; (with_reducible refine hK _ ?_); clear hK) | (refine codeW_cond rfl ?_; simp only [↓reduceIte]) | (intro (b : Bool); cases b))
      have hI0 := hI
      obtain ⟨I, hI⟩ : ∃ I : Nat → AS → Prop, I = fun m' s => ∃ (j : Nat), m' = i - j ∧ j ≤ i ∧ (∀ j', j' < j → agreeIx l k i j' = false) ∧ s.tm 0 = .sl 3 (vs It.av l) none ∧ s.tm 3 = .ptr h.length 0 0 ∧ s.tm 5 = .i i ∧ s.tm 6 = .i j ∧ s.h = h ++ [.cells 30 3 [k.av]] := ⟨_, rfl⟩; refine codeW_loop I ?_ (m := i) ?_
      · intro m' s hs; rw [hI] at hs; obtain ⟨tm, hp⟩ := s; dsimp only at hs; obtain ⟨j, rfl, hj, hok2, t0, t3, t5, t6, rfl⟩ := hs
        by_cases hlt2 : j < i
        · have hlt3 : j < l.length := by omega
          have c := refAgree_pure (l[j]).atom (l[i]).atom k (by assumption) (ha _ (List.getElem_mem hlt3))
          rw [agreeB_symm] at c
          have hix := agreeIx_get (k := k) hlt hlt3
          cases hc : agreeB (l[i]).atom (l[j]).atom k with
          | true =>
            rw [hc] at c hix
            have hf := holdsB_not hlt hlt2 hix
            repeat (first | ((first | (with_reducible refine codeW_seq_region (fun K E hK hE => ?_)) | (with_reducible refine codeW_region_k (fun K E hK hE => ?_)) | (with_reducible refine funW_pure c ?_) | (with_reducible refine callA_pure c ?_) | (refine codeW_seq_any (id := 7) [(0, 0), (1, 0), (2, 0), (3, 0), (4, 0), (5, 0), (6, 0), (7, 0), (8, 0), (9, 0), (10, 0), (11, 1)] mixed (by kernel_rfl) (fun K hK => ?_)) | (refine codeW_region_any (id := 7) [(0, 0), (1, 0), (2, 0), (3, 0), (4, 0), (5, 0), (6, 0), (7, 0), (8, 0), (9, 0), (10, 0), (11, 1)] mixed (by kernel_rfl) (fun K hK => ?_))); simp -implicitDefEqProofs only [anyW_nil, anyW_cons, anyO_eq, opsW_nil, opsW_cons, awanted, OpW, aop, AS.ev, put_some, ofV_bool, upd_at, ↓reduceIte, List.length_cons, List.length_nil, Nat.reduceAdd, Nat.reduceLT, Nat.reduceLeDiff, Nat.reduceEqDiff, Nat.zero_add, true_and, and_self, aFieldAddr, aLoad, aPart, aIndexAddr, aBin, hget0, List.getElem?_cons_zero, List.getElem?_cons_succ, Option.map_some, List.getElem?_toArray, List.map_cons, List.map_nil, List.take_succ_cons, List.take_zero, List.drop_succ_cons, List.drop_zero, pv_lss, decide_true, Int.toNat_natCast, Int.natCast_nonneg, Int.ofNat_lt, ti30, ei41, ti47, fi51_1, t0, t3, t5, t6, hlt, hlt2, hlt3, vs_length, vs_get It.av hlt, vs_get It.av hlt3, It.cells, It.isAgg, Ky.cells, Ky.isAgg, atom_fold]) | (with_reducible refine codeW_seq_k (fun K hK => ?_)) | (with_reducible refine codeW_block ?_) | (with_reducible refine codeW_ret ?_) | (with_reducible refine codeW_label ?_) | (with_reducible refine codeW_scope ?_) | (with_reducible refine codeW_skip ?_) | (with_reducible refine codeW_exit ?_) | (with_reducible refine to_then_normal ?_) | (with_reducible refine to_then_ret ?_) | (with_reducible refine to_then_exit ?_) | (with_reducible refine to_block_normal ?_) | (with_reducible refine to_block_ret ?_) | (with_reducible refine to_block_hit ?_) | (with_reducible refine to_block_miss rfl ?_) | ((with_reducible refine hK _ ?_); clear hK) | (clear hK; (with_reducible refine hK _ ?_); clear hK) | (clear hK; clear hK; (with_reducible refine hK _ ?_); clear hK) | (clear hK; clear hK; clear hK; (with_reducible refine hK _ ?_); clear hK) | (refine codeW_cond rfl ?_; simp only [↓reduceIte]) | (intro (b : Bool); cases b))
            simp only [BodyQ, aResults, aResult, upd, ↓reduceIte, Option.some.injEq, exists_eq_left']
            exact leaves_end (htake _ _) (.keep (.v _)) ⟨by rw [hf], rfl⟩
          | false =>
            rw [hc] at c hix
            repeat (first | ((first | (with_reducible refine codeW_seq_region (fun K E hK hE => ?_)) | (with_reducible refine codeW_region_k (fun K E hK hE => ?_)) | (with_reducible refine funW_pure c ?_) | (with_reducible refine callA_pure c ?_) | (refine codeW_seq_any (id := 7) [(0, 0), (1, 0), (2, 0), (3, 0), (4, 0), (5, 0), (6, 0), (7, 0), (8, 0), (9, 0), (10, 0), (11, 1)] mixed (by kernel_rfl) (fun K hK => ?_)) | (refine codeW_region_any (id := 7) [(0, 0), (1, 0), (2, 0), (3, 0), (4, 0), (5, 0), (6, 0), (7, 0), (8, 0), (9, 0), (10, 0), (11, 1)] mixed (by kernel_rfl) (fun K hK => ?_))); simp -implicitDefEqProofs only [anyW_nil, anyW_cons, anyO_eq, opsW_nil, opsW_cons, awanted, OpW, aop, AS.ev, put_some, ofV_int, upd_at, ↓reduceIte, List.length_cons, List.length_nil, Nat.reduceAdd, Nat.reduceLT, Nat.reduceLeDiff, Nat.reduceEqDiff, Nat.zero_add, true_and, and_self, aFieldAddr, aLoad, aPart, aIndexAddr, aBin, hget0, List.getElem?_cons_zero, List.getElem?_cons_succ, Option.map_some, List.getElem?_toArray, List.map_cons, List.map_nil, List.take_succ_cons, List.take_zero, List.drop_succ_cons, List.drop_zero, pv_lss, pv_add, decide_true, Int.toNat_natCast, Int.natCast_nonneg, Int.ofNat_lt, ti30, ei41, ti47, fi51_1, t0, t3, t5, t6, hlt, hlt2, hlt3, vs_length, vs_get It.av hlt, vs_get It.av hlt3, It.cells, It.isAgg, Ky.cells, Ky.isAgg, atom_fold]) | (with_reducible refine codeW_seq_k (fun K hK => ?_)) | (with_reducible refine codeW_block ?_) | (with_reducible refine codeW_ret ?_) | (with_reducible refine codeW_label ?_) | (with_reducible refine codeW_scope ?_) | (with_reducible refine codeW_skip ?_) | (with_reducible refine codeW_exit ?_) | (with_reducible refine to_then_normal ?_) | (with_reducible refine to_then_ret ?_) | (with_reducible refine to_then_exit ?_) | (with_reducible refine to_block_normal ?_) | (with_reducible refine to_block_ret ?_) | (with_reducible refine to_block_hit ?_) | (with_reducible refine to_block_miss rfl ?_) | ((with_reducible refine hK _ ?_); clear hK) | (clear hK; (with_reducible refine hK _ ?_); clear hK) | (clear hK; clear hK; (with_reducible refine hK _ ?_); clear hK) | (clear hK; clear hK; clear hK; (with_reducible refine hK _ ?_); clear hK) | (refine codeW_cond rfl ?_; simp only [↓reduceIte, Bool.false_eq_true]) | (intro (b : Bool); cases b))
            refine Onward.mk (m' := i - (j + 1)) (by omega) ?_
            rw [hI]
            refine ⟨j + 1, rfl, hlt2, fun j' hj' => ?_, t0, t3, t5, ?_, rfl⟩
            · rcases Nat.lt_or_ge j' j with h' | h'
              · exact hok2 j' h'
              · have : j' = j := by omega
                subst this; exact hix
            · simp only [upd, ↓reduceIte]
              rw [wrap_nat (by omega)]
        · have hji : j = i := by omega
          repeat (first | ((first | (with_reducible refine codeW_seq_region (fun K E hK hE => ?_)) | (with_reducible refine codeW_region_k (fun K E hK hE => ?_)) | (refine codeW_seq_any (id := 7) [(0, 0), (1, 0), (2, 0), (3, 0), (4, 0), (5, 0), (6, 0), (7, 0), (8, 0), (9, 0), (10, 0), (11, 1)] mixed (by kernel_rfl) (fun K hK => ?_)) | (refine codeW_region_any (id := 7) [(0, 0), (1, 0), (2, 0), (3, 0), (4, 0), (5, 0), (6, 0), (7, 0), (8, 0), (9, 0), (10, 0), (11, 1)] mixed (by kernel_rfl) (fun K hK => ?_))); simp -implicitDefEqProofs only [opsW_nil, opsW_cons, awanted, OpW, aop, AS.ev, put_some, ofV_int, upd_at, ↓reduceIte, Nat.reduceLT, Nat.reduceEqDiff, aBin, Option.map_some, pv_lss, pv_add, decide_false, Int.ofNat_lt, t5, t6, hlt2]) | (with_reducible refine codeW_seq_k (fun K hK => ?_)) | (with_reducible refine codeW_block ?_) | (with_reducible refine codeW_ret ?_) | (with_reducible refine codeW_label ?_) | (with_reducible refine codeW_scope ?_) | (with_reducible refine codeW_skip ?_) | (with_reducible refine codeW_exit ?_) | (with_reducible refine to_then_normal ?_) | (with_reducible refine to_then_ret ?_) | (with_reducible refine to_then_exit ?_) | (with_reducible refine to_block_normal ?_) | (with_reducible refine to_block_ret ?_) | (with_reducible refine to_block_hit ?_) | (with_reducible refine to_block_miss rfl ?_) | ((with_reducible refine hK _ ?_); clear hK) | (clear hK; (with_reducible refine hK _ ?_); clear hK) | (clear hK; clear hK; (with_reducible refine hK _ ?_); clear hK) | (clear hK; clear hK; clear hK; (with_reducible refine hK _ ?_); clear hK) | (refine codeW_cond rfl ?_; simp only [↓reduceIte, Bool.false_eq_true]) | (intro (b : Bool); cases b))
          refine Onward.mk (m' := l.length - (i + 1)) (by omega) ?_
          rw [hI0]
          refine ⟨i + 1, rfl, hlt, fun i' hi' => ?_, t0, t3, ?_, rfl⟩
          · rcases Nat.lt_or_ge i' i with h' | h'
            · exact hok i' h'
            · have : i' = i := by omega
              subst this
              exact fun j2 hj2 => hok2 j2 (by omega)
          · simp only [upd, ↓reduceIte]
            rw [wrap_nat (by omega)]
      · rw [hI]
        exact ⟨0, by omega, Nat.zero_le _, fun j' hj' => by omega, t0, t3, t5, rfl, rfl⟩
    · have hil : i = l.length := by omega
      have hf : holdsB l k = true := holdsB_true.2 fun i' hi' j hj => hok i' (by omega) j hj
      repeat (first | ((first | (with_reducible refine codeW_seq_region (fun K E hK hE => ?_)) | (with_reducible refine codeW_region_k (fun K E hK hE => ?_)) | (refine codeW_seq_any (id := 7) [(0, 0), (1, 0), (2, 0), (3, 0), (4, 0), (5, 0), (6, 0), (7, 0), (8, 0), (9, 0), (10, 0), (11, 1)] mixed (by kernel_rfl) (fun K hK => ?_)) | (refine codeW_region_any (id := 7) [(0, 0), (1, 0), (2, 0), (3, 0), (4, 0), (5, 0), (6, 0), (7, 0), (8, 0), (9, 0), (10, 0), (11, 1)] mixed (by kernel_rfl) (fun K hK => ?_))); simp -implicitDefEqProofs only [opsW_nil, opsW_cons, awanted, OpW, aop, AS.ev, put_some, ofV_bool, upd_at, ↓reduceIte, Nat.reduceLT, Nat.reduceEqDiff, aBin, aLen, Option.map_some, pv_lss, goInt, decide_false, Int.ofNat_lt, un41, t0, t5, hlt, vs_length]) | (with_reducible refine codeW_seq_k (fun K hK => ?_)) | (with_reducible refine codeW_block ?_) | (with_reducible refine codeW_ret ?_) | (with_reducible refine codeW_label ?_) | (with_reducible refine codeW_scope ?_) | (with_reducible refine codeW_skip ?_) | (with_reducible refine codeW_exit ?_) | (with_reducible refine to_then_normal ?_) | (with_reducible refine to_then_ret ?_) | (with_reducible refine to_then_exit ?_) | (with_reducible refine to_block_normal ?_) | (with_reducible refine to_block_ret ?_) | (with_reducible refine to_block_hit ?_) | (with_reducible refine to_block_miss rfl ?_) | ((with_reducible refine hK _ ?_); clear hK) | (clear hK; (with_reducible refine hK _ ?_); clear hK) | (clear hK; clear hK; (with_reducible refine hK _ ?_); clear hK) | (clear hK; clear hK; clear hK; (with_reducible refine hK _ ?_); clear hK) | (refine codeW_cond rfl ?_; simp only [↓reduceIte, Bool.false_eq_true]) | (intro (b : Bool); cases b))
      simp only [BodyQ, aResults, aResult, upd, ↓reduceIte, Option.some.injEq, exists_eq_left']
      exact leaves_end (htake _ _) (.keep (.v _)) ⟨by rw [hf], rfl⟩
  · rw [hI]
    exact ⟨0, by omega, Nat.zero_le _, fun i' hi' => by omega, rfl, rfl, rfl, rfl⟩
end Go.Proofs.Ytoccpldnegloaaa.Ab
