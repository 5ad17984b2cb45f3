/-
  Different variables, as a map.
-/
import Derived.Test.YtoccpldnegloaaaAbD1
set_option linter.unusedSimpArgs false
set_option linter.unusedVariables false
set_option maxHeartbeats 4000000
set_option maxRecDepth 4000
namespace Go.Proofs.Ytoccpldnegloaaa.Ab
open Go.Proofs

/-! different variables -/
def plainP (l : List T) : Prop := (∀ t ∈ l, t.kind = 1) ∧ (l.map T.int).Nodup
instance (l : List T) : Decidable (plainP l) := by unfold plainP; infer_instance
theorem plainP_snoc {l : List T} {t : T} : plainP (l ++ [t]) ↔ plainP l ∧ t.kind = 1 ∧ t.int ∉ l.map T.int := by
  unfold plainP
  rw [List.map_append, List.nodup_append]
  constructor
  · rintro ⟨h1, h2, _, h3⟩
    refine ⟨⟨fun x hx => h1 x (by simp [hx]), h2⟩, h1 t (by simp), fun hm => h3 _ hm t.int (by simp) rfl⟩
  · rintro ⟨⟨h1, h2⟩, h3, h4⟩
    refine ⟨fun x hx => ?_, h2, by simp, fun a ha b hb e => ?_⟩
    · rcases List.mem_append.1 hx with hx | hx
      · exact h1 x hx
      · simp at hx; subst hx; exact h3
    · simp at hb; subst hb; subst e; exact h4 ha
theorem plainP_take {l : List T} {j : Nat} (h : plainP l) : plainP (l.take j) :=
  ⟨fun t ht => h.1 t (List.mem_of_mem_take ht), h.2.sublist ((List.take_sublist j l).map T.int)⟩
theorem plainP_step {l : List T} {j : Nat} (hj : j < l.length) : plainP (l.take (j + 1)) ↔ plainP (l.take j) ∧ (l[j]).kind = 1 ∧ (l[j]).int ∉ (l.take j).map T.int := by
  rw [List.take_succ_eq_append_getElem hj]; exact plainP_snoc
theorem plainP_not {l : List T} {j : Nat} (h : ¬ plainP (l.take j)) : ¬ plainP l := fun h' => h (plainP_take h')

/-- the places of the numbers -/
def vm (i : Nat) : List T → List (Int × AV)
  | [] => []
  | t :: l => (t.int, .i (i : Nat)) :: vm (i + 1) l
theorem vm_snoc (t : T) : ∀ (l : List T) (i : Nat), vm i (l ++ [t]) = vm i l ++ [(t.int, .i ((i + l.length : Nat) : Int))]
  | [], i => by simp [vm]
  | x :: l, i => by simp only [List.cons_append, vm, vm_snoc t l (i + 1), List.length_cons]; rw [show i + 1 + l.length = i + (l.length + 1) by omega]
theorem vm_none {n : Int} : ∀ {l : List T} {i : Nat}, igetA n (vm i l) = none ↔ n ∉ l.map T.int
  | [], i => by simp [vm, igetA]
  | t :: l, i => by
    simp only [vm, igetA, List.map_cons, List.mem_cons, not_or]
    by_cases h : n = t.int
    · rw [if_pos h]
      constructor
      · intro h'; cases h'
      · intro h'; exact absurd h h'.1
    · rw [if_neg h, vm_none (l := l)]
      constructor
      · intro h'; exact ⟨h, h'⟩
      · intro h'; exact h'.2
theorem vm_below (m : Nat) : ∀ (l : List T) (i : Nat), ∀ kv ∈ imap (vm i l), Below m kv.2
  | [], i, kv, h => by simp [vm, imap] at h
  | t :: l, i, kv, h => by
    simp only [vm, imap, List.map_cons, List.mem_cons] at h
    rcases h with rfl | h
    · exact .v _
    · exact vm_below m l (i + 1) kv h
theorem vm_some {n : Int} : ∀ {l : List T} {i : Nat} {x : AV}, igetA n (vm i l) = some x → ∃ k, k < l.length ∧ x = .i ((i + k : Nat) : Int) ∧ (l[k]?).map T.int = some n
  | [], i, x, h => by simp [vm, igetA] at h
  | t :: l, i, x, h => by
    simp only [vm, igetA] at h
    split at h
    · rename_i hn
      cases h
      exact ⟨0, by simp, rfl, by simp [hn]⟩
    · obtain ⟨k, h1, h2, h3⟩ := vm_some h
      exact ⟨k + 1, by simp only [List.length_cons]; omega, by rw [h2, show i + 1 + k = i + (k + 1) by omega], by simpa using h3⟩

theorem variables_call (a : G) (hb : a.args.length ≤ 1000000) (h : AH) : CallW Try.prog 21 [a.atom] h fun o h' =>
    (plainP a.args ∧ o = .ret (.tup [.mp (h.length + 1), .b true]) ∧ h' = h ++ [.cells 47 2 [a.atom], .map (imap (vm 0 a.args))]) ∨ (¬ plainP a.args ∧ o = .ret (.tup [.v (.map none), .b false]) ∧ h' = h) := by
  refine callW_of_body Try.func21 rfl Try.call21 Try.ntmps21 (congrArg Array.toList Try.results21) (by simp) ?_
  repeat (first | ((first | (with_reducible refine codeW_seq_region (fun K E hK hE => ?_)) | (with_reducible refine codeW_region_k (fun K E hK hE => ?_))); simp -implicitDefEqProofs only [opsW_nil, opsW_cons, awanted, OpW, aop, undef, AS.ev, put_some, ofV_int, ofV_bool, ofV_map, upd_at, initTm, List.getD_cons_zero, AV.cells1, List.all_cons, List.all_nil, cell1_str, cell1_sl, Bool.and_self, ↓reduceIte, List.length_cons, List.length_nil, Nat.reduceAdd, Nat.reduceLT, Nat.reduceEqDiff, Nat.zero_add, aFieldAddr, aLoad, aPart, aLen, hget0, hlen, happ, List.getElem?_cons_zero, List.getElem?_cons_succ, Option.map_some, Option.map_none, List.cons_append, List.nil_append, goInt, avs_length, ti45, un45, fi47_1, atom_cells]) | (with_reducible refine codeW_seq_k (fun K hK => ?_)) | (with_reducible refine codeW_block ?_) | (with_reducible refine codeW_ret ?_) | (with_reducible refine codeW_label ?_) | (with_reducible refine codeW_scope ?_) | (with_reducible refine codeW_skip ?_) | (with_reducible refine codeW_exit ?_) | (with_reducible refine to_then_normal ?_) | (with_reducible refine to_then_ret ?_) | (with_reducible refine to_then_exit ?_) | (with_reducible refine to_block_normal ?_) | (with_reducible refine to_block_ret ?_) | (with_reducible refine to_block_hit ?_) | (with_reducible refine to_block_miss rfl ?_) | ((with_reducible refine hK _ ?_); clear hK) | (clear hK; (with_reducible refine hK _ ?_); clear hK) | (clear hK; clear hK; (with_reducible refine hK _ ?_); clear hK) | (clear hK; clear hK; clear hK; (with_reducible refine hK _ ?_); clear hK) | (refine codeW_cond rfl ?_; simp only [↓reduceIte, Bool.false_eq_true]) | (intro (b : Bool); cases b))
  obtain ⟨I, hI⟩ : ∃ I : Nat → AS → Prop, I = fun m' s => ∃ (j : Nat) (L : AH), m' = a.args.length - j ∧ j ≤ a.args.length ∧ plainP (a.args.take j) ∧ s.tm 4 = .mp (h.length + 1) ∧ s.tm 11 = .sl 4 (avs a.args) none ∧ s.tm 12 = .i a.args.length ∧ s.tm 13 = .i j ∧ s.h = h ++ ([.cells 47 2 [a.atom], .map (imap (vm 0 (a.args.take j)))] ++ L) := ⟨_, rfl⟩; refine codeW_loop I ?_ (m := a.args.length) ?_
  · intro m' s hs; rw [hI] at hs; obtain ⟨tm, hp⟩ := s; dsimp only at hs; obtain ⟨j, L, rfl, hj, hp, t4, t11, t12, t13, rfl⟩ := hs
    by_cases hlt : j < a.args.length
    · have hst := plainP_step hlt
      have hw : (a.args.take j).length = j := by rw [List.length_take]; omega
      by_cases k1 : (a.args[j]).kind = 1
      · have k1' : ((a.args[j]).kind != 1) = false := by simp [k1]
        by_cases hm : (a.args[j]).int ∈ (a.args.take j).map T.int
        · have hx : ∃ x, igetA (a.args[j]).int (vm 0 (a.args.take j)) = some x := by
            cases hg : igetA (a.args[j]).int (vm 0 (a.args.take j)) with
            | some x => exact ⟨x, rfl⟩
            | none => exact absurd hm (vm_none.1 hg)
          obtain ⟨x, hx⟩ := hx
          have hf : findA (.int .i64) (.int .i64 (a.args[j]).int) (imap (vm 0 (a.args.take j))) = some (some x) := by rw [findA_int, hx]
          have hn : ¬ plainP a.args := plainP_not (j := j + 1) (fun h => (hst.1 h).2.2 hm)
          repeat (first | ((first | (with_reducible refine codeW_seq_region (fun K E hK hE => ?_)) | (with_reducible refine codeW_region_k (fun K E hK hE => ?_))); simp -implicitDefEqProofs only [opsW_nil, opsW_cons, awanted, OpW, aop, undef, AS.ev, put_some, put_none, ofV_int, ofV_bool, ofV_map, upd_at, AV.cells1, cells_agg, isAgg_agg, List.all_cons, List.all_nil, cell1_int, cell1_str, cell1_slice, cell1_sl, Bool.and_self, ↓reduceIte, List.length_cons, List.length_nil, Nat.reduceAdd, Nat.reduceLT, Nat.reduceEqDiff, Nat.zero_add, Nat.add_zero, and_self, aFieldAddr, aLoad, aPart, aStore, aSetPart, aIndexAddr, aBin, aExtract, aLookup, hget0, hget, hset0, hset, hlen, happ, List.getElem?_cons_zero, List.getElem?_cons_succ, List.set_cons_zero, List.set_cons_succ, Option.map_some, List.cons_append, List.nil_append, pv_neq, pv_lss, decide_true, Int.toNat_natCast, Int.natCast_nonneg, Int.ofNat_lt, T.av_cells, T.av_isAgg, avs_length, ti3, ei45, ti49, fi49_0, fi49_1, zi49, mi54, t4, t11, t12, t13, hlt, avs_get hlt, k1', hf]) | (with_reducible refine codeW_seq_k (fun K hK => ?_)) | (with_reducible refine codeW_block ?_) | (with_reducible refine codeW_ret ?_) | (with_reducible refine codeW_label ?_) | (with_reducible refine codeW_scope ?_) | (with_reducible refine codeW_skip ?_) | (with_reducible refine codeW_exit ?_) | (with_reducible refine to_then_normal ?_) | (with_reducible refine to_then_ret ?_) | (with_reducible refine to_then_exit ?_) | (with_reducible refine to_block_normal ?_) | (with_reducible refine to_block_ret ?_) | (with_reducible refine to_block_hit ?_) | (with_reducible refine to_block_miss rfl ?_) | ((with_reducible refine hK _ ?_); clear hK) | (clear hK; (with_reducible refine hK _ ?_); clear hK) | (clear hK; clear hK; (with_reducible refine hK _ ?_); clear hK) | (clear hK; clear hK; clear hK; (with_reducible refine hK _ ?_); clear hK) | (refine codeW_cond rfl ?_; simp only [↓reduceIte, Bool.false_eq_true]) | (intro (b : Bool); cases b))
          simp -implicitDefEqProofs only [upd_at, ↓reduceIte, Nat.reduceEqDiff, Option.map_some, Option.bind_some, Option.some.injEq, List.mapM_cons, List.mapM_nil, Option.pure_def, Option.bind_eq_bind, BodyQ, aResults, aResult, exists_eq_left']
          exact leaves_end (r' := .tup [.v (.map none), .b false]) (htake _ _) (.tup rfl (frz_cons (.keep (.v _)) (frz_one (.keep (.v _))))) (.inr ⟨hn, rfl, rfl⟩)
        · have hf : findA (.int .i64) (.int .i64 (a.args[j]).int) (imap (vm 0 (a.args.take j))) = some none := by rw [findA_int, vm_none.2 hm]
          have hu : updA (.int .i64) (.int .i64 (a.args[j]).int) (.i (j : Nat)) (imap (vm 0 (a.args.take j))) = some (imap (vm 0 (a.args.take (j + 1)))) := by
            rw [updA_int _ _ _ (vm_none.2 hm), List.take_succ_eq_append_getElem hlt, vm_snoc, hw, Nat.zero_add]
          repeat (first | ((first | (with_reducible refine codeW_seq_region (fun K E hK hE => ?_)) | (with_reducible refine codeW_region_k (fun K E hK hE => ?_))); simp -implicitDefEqProofs only [opsW_nil, opsW_cons, awanted, OpW, aop, undef, AS.ev, put_some, put_none, ofV_int, upd_at, AV.cells1, cells_agg, isAgg_agg, List.all_cons, List.all_nil, cell1_int, cell1_str, cell1_slice, cell1_sl, Bool.and_self, ↓reduceIte, List.length_cons, List.length_nil, Nat.reduceAdd, Nat.reduceLT, Nat.reduceEqDiff, Nat.zero_add, Nat.add_zero, and_self, aFieldAddr, aLoad, aPart, aStore, aSetPart, aIndexAddr, aBin, aExtract, aLookup, aMapUpdate, hget0, hget, hset0, hset, hlen, happ, List.getElem?_cons_zero, List.getElem?_cons_succ, List.set_cons_zero, List.set_cons_succ, Option.map_some, List.cons_append, List.nil_append, pv_neq, pv_lss, pv_add, decide_true, Int.toNat_natCast, Int.natCast_nonneg, Int.ofNat_lt, T.av_cells, T.av_isAgg, avs_length, ti3, zi3, ei45, ti49, fi49_0, fi49_1, zi49, mi54, t4, t11, t12, t13, hlt, avs_get hlt, k1', hf, hu]) | (with_reducible refine codeW_seq_k (fun K hK => ?_)) | (with_reducible refine codeW_block ?_) | (with_reducible refine codeW_ret ?_) | (with_reducible refine codeW_label ?_) | (with_reducible refine codeW_scope ?_) | (with_reducible refine codeW_skip ?_) | (with_reducible refine codeW_exit ?_) | (with_reducible refine to_then_normal ?_) | (with_reducible refine to_then_ret ?_) | (with_reducible refine to_then_exit ?_) | (with_reducible refine to_block_normal ?_) | (with_reducible refine to_block_ret ?_) | (with_reducible refine to_block_hit ?_) | (with_reducible refine to_block_miss rfl ?_) | ((with_reducible refine hK _ ?_); clear hK) | (clear hK; (with_reducible refine hK _ ?_); clear hK) | (clear hK; clear hK; (with_reducible refine hK _ ?_); clear hK) | (clear hK; clear hK; clear hK; (with_reducible refine hK _ ?_); clear hK) | (refine codeW_cond rfl ?_; simp only [↓reduceIte, Bool.false_eq_true]) | (intro (b : Bool); cases b))
          refine Onward.mk (m' := a.args.length - (j + 1)) (by omega) ?_
          rw [hI]
          refine ⟨j + 1, _, rfl, hlt, hst.2 ⟨hp, k1, hm⟩, t4, t11, t12, ?_, rfl⟩
          simp only [upd, ↓reduceIte]
          rw [wrap_nat (by omega)]
      · have k1' : ((a.args[j]).kind != 1) = true := by simp [k1]
        have hn : ¬ plainP a.args := plainP_not (j := j + 1) (fun h => k1 (hst.1 h).2.1)
        repeat (first | ((first | (with_reducible refine codeW_seq_region (fun K E hK hE => ?_)) | (with_reducible refine codeW_region_k (fun K E hK hE => ?_))); simp -implicitDefEqProofs only [opsW_nil, opsW_cons, awanted, OpW, aop, undef, AS.ev, put_some, put_none, ofV_int, ofV_bool, ofV_map, upd_at, AV.cells1, cells_agg, isAgg_agg, List.all_cons, List.all_nil, cell1_int, cell1_str, cell1_slice, cell1_sl, Bool.and_self, ↓reduceIte, List.length_cons, List.length_nil, Nat.reduceAdd, Nat.reduceLT, Nat.reduceEqDiff, Nat.zero_add, Nat.add_zero, and_self, aFieldAddr, aLoad, aPart, aStore, aSetPart, aIndexAddr, aBin, hget0, hget, hset0, hset, hlen, happ, List.getElem?_cons_zero, List.getElem?_cons_succ, List.set_cons_zero, List.set_cons_succ, Option.map_some, List.cons_append, List.nil_append, pv_neq, pv_lss, decide_true, Int.toNat_natCast, Int.natCast_nonneg, Int.ofNat_lt, T.av_cells, T.av_isAgg, avs_length, ti3, ei45, ti49, fi49_0, zi49, t11, t12, t13, hlt, avs_get hlt, k1']) | (with_reducible refine codeW_seq_k (fun K hK => ?_)) | (with_reducible refine codeW_block ?_) | (with_reducible refine codeW_ret ?_) | (with_reducible refine codeW_label ?_) | (with_reducible refine codeW_scope ?_) | (with_reducible refine codeW_skip ?_) | (with_reducible refine codeW_exit ?_) | (with_reducible refine to_then_normal ?_) | (with_reducible refine to_then_ret ?_) | (with_reducible refine to_then_exit ?_) | (with_reducible refine to_block_normal ?_) | (with_reducible refine to_block_ret ?_) | (with_reducible refine to_block_hit ?_) | (with_reducible refine to_block_miss rfl ?_) | ((with_reducible refine hK _ ?_); clear hK) | (clear hK; (with_reducible refine hK _ ?_); clear hK) | (clear hK; clear hK; (with_reducible refine hK _ ?_); clear hK) | (clear hK; clear hK; clear hK; (with_reducible refine hK _ ?_); clear hK) | (refine codeW_cond rfl ?_; simp only [↓reduceIte]) | (intro (b : Bool); cases b))
        simp -implicitDefEqProofs only [upd_at, ↓reduceIte, Nat.reduceEqDiff, Option.map_some, Option.bind_some, Option.some.injEq, List.mapM_cons, List.mapM_nil, Option.pure_def, Option.bind_eq_bind, BodyQ, aResults, aResult, exists_eq_left']
        exact leaves_end (r' := .tup [.v (.map none), .b false]) (htake _ _) (.tup rfl (frz_cons (.keep (.v _)) (frz_one (.keep (.v _))))) (.inr ⟨hn, rfl, rfl⟩)
    · have hjl : j = a.args.length := by omega
      rw [hjl, List.take_length] at hp
      repeat (first | ((first | (with_reducible refine codeW_seq_region (fun K E hK hE => ?_)) | (with_reducible refine codeW_region_k (fun K E hK hE => ?_))); simp -implicitDefEqProofs only [opsW_nil, opsW_cons, awanted, OpW, aop, AS.ev, put_some, ofV_bool, upd_at, ↓reduceIte, Nat.reduceLT, Nat.reduceEqDiff, aBin, Option.map_some, List.cons_append, List.nil_append, pv_lss, decide_false, Int.ofNat_lt, t4, t12, t13, hlt]) | (with_reducible refine codeW_seq_k (fun K hK => ?_)) | (with_reducible refine codeW_block ?_) | (with_reducible refine codeW_ret ?_) | (with_reducible refine codeW_label ?_) | (with_reducible refine codeW_scope ?_) | (with_reducible refine codeW_skip ?_) | (with_reducible refine codeW_exit ?_) | (with_reducible refine to_then_normal ?_) | (with_reducible refine to_then_ret ?_) | (with_reducible refine to_then_exit ?_) | (with_reducible refine to_block_normal ?_) | (with_reducible refine to_block_ret ?_) | (with_reducible refine to_block_hit ?_) | (with_reducible refine to_block_miss rfl ?_) | ((with_reducible refine hK _ ?_); clear hK) | (clear hK; (with_reducible refine hK _ ?_); clear hK) | (clear hK; clear hK; (with_reducible refine hK _ ?_); clear hK) | (clear hK; clear hK; clear hK; (with_reducible refine hK _ ?_); clear hK) | (refine codeW_cond rfl ?_; simp only [↓reduceIte, Bool.false_eq_true]) | (intro (b : Bool); cases b))
      simp -implicitDefEqProofs only [upd_at, ↓reduceIte, Nat.reduceEqDiff, Option.map_some, Option.bind_some, Option.some.injEq, List.mapM_cons, List.mapM_nil, Option.pure_def, Option.bind_eq_bind, BodyQ, aResults, aResult, exists_eq_left']
      rw [hjl, List.take_length]
      have ht : (h ++ ([AB.cells 47 2 [a.atom], AB.map (imap (vm 0 a.args))] ++ L)).take (h.length + 2) = h ++ [AB.cells 47 2 [a.atom], AB.map (imap (vm 0 a.args))] := by
        rw [← List.append_assoc]
        exact List.take_left' (by simp)
      refine .inl ⟨h.length + 2, .tup [.mp (h.length + 1), .b true], by omega, by simp, .inr fun i b hb => ?_, .tup rfl (frz_cons (.keep (.mp _ (by omega))) (frz_one (.keep (.v _)))), .inl ⟨hp, rfl, ht⟩⟩
      have hb' : (h ++ [AB.cells 47 2 [a.atom], AB.map (imap (vm 0 a.args))])[i]? = some b := by rw [← ht]; exact hb
      rcases Nat.lt_or_ge i h.length with hi | hi
      · rw [List.getElem?_append_left hi] at hb'
        exact .inl hb'
      · rw [List.getElem?_append_right hi] at hb'
        refine .inr ?_
        match i - h.length, hb' with
        | 0, hb' =>
          simp at hb'; subst hb'
          exact vs_flat G.atom _ (atom_bel _) [a]
        | 1, hb' =>
          simp at hb'; subst hb'
          exact vm_below _ _ _
        | n + 2, hb' => simp at hb'
  · rw [hI]
    exact ⟨0, [], by omega, Nat.zero_le _, by simp [plainP], rfl, rfl, rfl, rfl, rfl⟩
end Go.Proofs.Ytoccpldnegloaaa.Ab
