/-
  Plain laws of matching: what is found stays, a second matching changes nothing, the instance of the pattern is the term.
-/
import Derived.Test.YtpfcnfcnljnnlaaAbMq
import Derived.Test.YtpfcnfcnljnnlaaAbY
set_option linter.unusedVariables false
set_option maxHeartbeats 4000000
set_option linter.unusedSimpArgs false
namespace Go.Proofs.Ytpfcnfcnljnnlaa.Ab
open Go.Proofs

/-! looking up -/
def look : Env → Int → Option T
  | [], _ => none
  | b :: l, v => if b.1 = v then some b.2 else look l v
theorem look_idx (v : Int) : ∀ env : Env, (idxP (fun b => b.1 == v) env = none ∧ look env v = none) ∨ ∃ i b, idxP (fun b => b.1 == v) env = some i ∧ env[i]? = some b ∧ b.1 = v ∧ look env v = some b.2
  | [] => .inl ⟨rfl, rfl⟩
  | b :: l => by
    simp only [idxP, look, beq_iff_eq]
    by_cases h : b.1 = v
    · exact .inr ⟨0, b, by rw [if_pos h], rfl, h, by rw [if_pos h]⟩
    · rw [if_neg h, if_neg h]
      rcases look_idx v l with ⟨h1, h2⟩ | ⟨i, c, h1, h2, h3, h4⟩
      · exact .inl ⟨by rw [h1]; rfl, h2⟩
      · exact .inr ⟨i + 1, c, by rw [h1]; rfl, by simpa using h2, h3, h4⟩
theorem look_append (v : Int) : ∀ l m : Env, look (l ++ m) v = match look l v with | some b => some b | none => look m v
  | [], m => rfl
  | b :: l, m => by
    simp only [List.cons_append, look]
    by_cases h : b.1 = v
    · rw [if_pos h, if_pos h]
    · rw [if_neg h, if_neg h, look_append v l m]
theorem look_mem {v : Int} {t : T} : ∀ {env : Env}, look env v = some t → (v, t) ∈ env
  | [], h => by simp [look] at h
  | b :: l, h => by
    simp only [look] at h
    by_cases e : b.1 = v
    · rw [if_pos e] at h
      cases h
      exact List.mem_cons.2 (.inl (by rw [← e]))
    · rw [if_neg e] at h
      exact List.mem_cons_of_mem _ (look_mem h)
theorem look_none {v : Int} : ∀ {env : Env}, look env v = none ↔ v ∉ env.map (·.1)
  | [] => by simp [look]
  | b :: l => by
    rw [look, List.map_cons, List.mem_cons, not_or]
    by_cases e : b.1 = v
    · rw [if_pos e]
      constructor
      · intro h; cases h
      · intro h; exact absurd e.symm h.1
    · rw [if_neg e, look_none (env := l)]
      constructor
      · intro h; exact ⟨fun x => e x.symm, h⟩
      · intro h; exact h.2
theorem look_insL (l : Env) (i : Nat) (f : Int × T) (v : Int) (h : look l f.1 = none) : look (insL l i f) v = if f.1 = v then some f.2 else look l v := by
  have e : look l v = match look (l.take i) v with | some b => some b | none => look (l.drop i) v := by
    rw [← look_append, List.take_append_drop]
  have e' : look l f.1 = match look (l.take i) f.1 with | some b => some b | none => look (l.drop i) f.1 := by
    rw [← look_append, List.take_append_drop]
  rw [insL, look_append, look_append]
  by_cases hv : f.1 = v
  · subst hv
    rw [h] at e'
    cases ht : look (l.take i) f.1 with
    | some b => rw [ht] at e'; cases e'
    | none => simp [look]
  · rw [if_neg hv, e]
    cases look (l.take i) v with
    | some b => rfl
    | none => simp [look, hv]
theorem look_ext (l : Env) (f : Int × T) (v : Int) (h : look l f.1 = none) : look (ext l f) v = if f.1 = v then some f.2 else look l v := look_insL l _ f v h

/-- what the second has beyond the first -/
def Ext (e e' : Env) : Prop := ∀ v b, look e v = some b → look e' v = some b
theorem Ext.refl (e : Env) : Ext e e := fun _ _ h => h
theorem Ext.trans {a b c : Env} (h : Ext a b) (h' : Ext b c) : Ext a c := fun v x hx => h' v x (h v x hx)

theorem matT_look (env : Env) (p t : T) : matT env p t =
    if p.kind = 2 then if t.kind = 2 ∧ t.name.toList = p.name.toList ∧ t.args.length = p.args.length then matL env p.args t.args else none
    else if p.kind = 1 then match look env p.int with
      | some b => if (cmpT b t == 0) = true then some env else none
      | none => some (ext env (p.int, t))
    else if (cmpT p t == 0) = true then some env else none := by
  rw [matT_eq]
  rcases look_idx p.int env with ⟨h1, h2⟩ | ⟨i, b, h1, h2, _, h4⟩
  · rw [h1, h2]
  · rw [h1, h4]; simp only [h2]
theorem inst_look (env : Env) (k : Int) (t : T) : t.inst env k =
    if t.kind = 2 then T.app t.name (insts env k t.args)
    else if t.kind = 1 then match look env t.int with
      | some b => b
      | none => T.var (sumI t.int k)
    else if t.kind = 0 then T.num t.int
    else t := by
  rw [T.inst_eq]
  rcases look_idx t.int env with ⟨h1, h2⟩ | ⟨i, b, h1, h2, _, h4⟩
  · rw [h1, h2]
  · rw [h1, h4]; simp only [h2]

theorem matT_mk (env : Env) (kd i : Int) (n : ByteArray) (l : List T) (t : T) : matT env (.mk kd i n l) t =
    if kd = 2 then if t.kind = 2 ∧ t.name.toList = n.toList ∧ t.args.length = l.length then matL env l t.args else none
    else if kd = 1 then match look env i with
      | some b => if (cmpT b t == 0) = true then some env else none
      | none => some (ext env (i, t))
    else if (cmpT (.mk kd i n l) t == 0) = true then some env else none := matT_look env (.mk kd i n l) t
theorem inst_mk (env : Env) (k kd i : Int) (n : ByteArray) (l : List T) : (T.mk kd i n l).inst env k =
    if kd = 2 then T.app n (insts env k l)
    else if kd = 1 then match look env i with
      | some b => b
      | none => T.var (sumI i k)
    else if kd = 0 then T.num i
    else .mk kd i n l := inst_look env k (.mk kd i n l)

/-! what equal terms are -/
theorem cmpI_zero {a b : Int} : cmpI a b = 0 ↔ a = b := by
  unfold cmpI
  by_cases h1 : a < b
  · rw [if_pos h1]; constructor <;> intro h <;> omega
  · rw [if_neg h1]
    by_cases h2 : a > b
    · rw [if_pos h2]; constructor <;> intro h <;> omega
    · rw [if_neg h2]; constructor <;> intro h <;> omega
theorem cmpS_zero {a b : ByteArray} : cmpS a b = 0 ↔ a.toList = b.toList := by
  unfold cmpS
  by_cases h1 : Op.bytesLess a.toList b.toList = true
  · rw [if_pos h1]
    refine ⟨fun h => by omega, fun h => ?_⟩
    rw [h, bytesLess_self] at h1; cases h1
  · rw [if_neg h1]
    have h1' : Op.bytesLess a.toList b.toList = false := by simpa using h1
    rw [h1', Bool.false_or]
    by_cases h2 : a.toList = b.toList
    · have : (a.toList == b.toList) = true := by simpa using h2
      rw [this]
      exact ⟨fun _ => h2, fun _ => rfl⟩
    · have : (a.toList == b.toList) = false := by simpa using h2
      rw [this]
      exact ⟨fun h => by simp at h, fun h => absurd h h2⟩
theorem rankK_two {k : Int} : rankK k = 2 ↔ k = 2 := by
  unfold rankK
  by_cases h1 : k = 1
  · rw [if_pos h1]; omega
  · rw [if_neg h1]
    by_cases h0 : k = 0
    · rw [if_pos h0]; omega
    · rw [if_neg h0]
      by_cases h2 : k = 2
      · rw [if_pos h2]; omega
      · rw [if_neg h2]; omega
theorem ne_zero_false {a : Int} (h : a = 0) : (a != 0) = false := by rw [h]; rfl
theorem ne_zero_true {a : Int} (h : ¬ a = 0) : (a != 0) = true := by simpa using h
theorem cmpT_two {p t : T} (hk : p.kind = 2) : cmpT p t = 0 ↔ (t.kind = 2 ∧ t.name.toList = p.name.toList ∧ t.args.length = p.args.length) ∧ cmpL p.args t.args = 0 := by
  rw [cmpT_eq]
  have hr : rankK p.kind = 2 := rankK_two.2 hk
  rw [hr]
  by_cases h1 : t.kind = 2
  · have hr2 : rankK t.kind = 2 := rankK_two.2 h1
    rw [hr2, if_neg (by rw [ne_zero_false (cmpI_self 2)]; simp), if_neg (by omega), if_pos rfl]
    by_cases h2 : (p.args.length : Int) = t.args.length
    · rw [if_neg (by rw [ne_zero_false (cmpI_zero.2 h2)]; simp)]
      by_cases h3 : p.name.toList = t.name.toList
      · rw [if_neg (by rw [ne_zero_false (cmpS_zero.2 h3)]; simp)]
        exact ⟨fun h => ⟨⟨h1, h3.symm, by omega⟩, h⟩, fun h => h.2⟩
      · have h3' : ¬ cmpS p.name t.name = 0 := fun h => h3 (cmpS_zero.1 h)
        rw [if_pos (ne_zero_true h3')]
        exact ⟨fun h => absurd h h3', fun h => absurd h.1.2.1.symm h3⟩
    · have h2' : ¬ cmpI (p.args.length : Int) t.args.length = 0 := fun h => h2 (cmpI_zero.1 h)
      rw [if_pos (ne_zero_true h2')]
      exact ⟨fun h => absurd h h2', fun h => absurd (by omega) h2⟩
  · have h1' : ¬ cmpI 2 (rankK t.kind) = 0 := fun h => h1 (rankK_two.1 (cmpI_zero.1 h).symm)
    rw [if_pos (ne_zero_true h1')]
    exact ⟨fun h => absurd h h1', fun h => absurd h.1.1 h1⟩
theorem cmpL_cons {a b : T} {l m : List T} : cmpL (a :: l) (b :: m) = 0 ↔ cmpT a b = 0 ∧ cmpL l m = 0 := by
  simp only [cmpL]
  by_cases h : cmpT a b = 0
  · rw [if_neg (by rw [ne_zero_false h]; simp)]
    exact ⟨fun h' => ⟨h, h'⟩, fun h' => h'.2⟩
  · rw [if_pos (ne_zero_true h)]
    exact ⟨fun h' => absurd h' h, fun h' => absurd h'.1 h⟩
/-- a number compares by its value -/
theorem cmpT_num (p t : T) (hk : p.kind = 0) : cmpT (T.num p.int) t = cmpT p t := by
  rw [cmpT_eq, cmpT_eq]
  have e1 : (T.num p.int).kind = p.kind := hk.symm
  have e2 : (T.num p.int).int = p.int := rfl
  have hr : rankK p.kind = 1 := by rw [hk]; rfl
  rw [e1, e2, hr]
  by_cases h : (cmpI 1 (rankK t.kind) != 0) = true
  · rw [if_pos h, if_pos h]
  · rw [if_neg h, if_neg h, if_pos (.inr rfl), if_pos (.inr rfl)]

/-! matching adds to what there is -/
mutual
theorem matT_ext (env : Env) : ∀ (p t : T) (e : Env), matT env p t = some e → Ext env e
  | .mk k i n l, t, e, h => by
    rw [matT_mk] at h
    split at h
    · split at h
      · exact matL_ext env l t.args e h
      · cases h
    · split at h
      · split at h
        · split at h
          · cases h; exact Ext.refl _
          · cases h
        · rename_i hn
          cases h
          intro v b hb
          rw [look_ext _ _ _ hn]
          split
          · rename_i hv
            subst hv
            rw [hn] at hb; cases hb
          · exact hb
      · split at h
        · cases h; exact Ext.refl _
        · cases h
theorem matL_ext (env : Env) : ∀ (l m : List T) (e : Env), matL env l m = some e → Ext env e
  | [], m, e, h => by simp only [matL] at h; cases h; exact Ext.refl _
  | a :: l, [], e, h => by simp only [matL] at h; cases h; exact Ext.refl _
  | a :: l, b :: m, e, h => by
    simp only [matL] at h
    split at h
    · rename_i e2 h2
      exact (matT_ext env a b e2 h2).trans (matL_ext e2 l m e h)
    · cases h
end

theorem app_args (s : ByteArray) (l : List T) : (T.app s l).args = l := rfl

/-! with what was found, matching changes nothing, and the instance is the term -/
mutual
theorem matT_again (k : Int) (env : Env) : ∀ (p t : T) (e : Env), matT env p t = some e → ∀ e', Ext e e' → matT e' p t = some e' ∧ cmpT (p.inst e' k) t = 0
  | .mk kd i n l, t, e, h, e', hx => by
    rw [matT_mk] at h
    rw [matT_mk, inst_mk]
    split at h
    · rename_i h2
      rw [if_pos h2, if_pos h2]
      split at h
      · rename_i hd
        obtain ⟨g1, g2⟩ := matL_again k env l t.args e h e' hx hd.2.2.symm
        rw [if_pos hd]
        refine ⟨g1, (cmpT_two (p := T.app n (insts e' k l)) rfl).2 ⟨⟨hd.1, hd.2.1, ?_⟩, g2⟩⟩
        rw [app_args, insts_length]; exact hd.2.2
      · cases h
    · rename_i h2
      rw [if_neg h2, if_neg h2]
      split at h
      · rename_i h1
        rw [if_pos h1, if_pos h1]
        split at h
        · rename_i b hb
          split at h
          · rename_i hc
            cases h
            rw [hx i b hb]
            simp only [hc, ↓reduceIte, true_and]
            simpa using hc
          · cases h
        · rename_i hn
          cases h
          have hl : look (ext env (i, t)) i = some t := by rw [look_ext _ _ _ hn]; exact if_pos rfl
          rw [hx i t hl]
          simp only [cmpT_self]
          exact ⟨by simp, trivial⟩
      · rename_i h1
        rw [if_neg h1, if_neg h1]
        split at h
        · rename_i hc
          rw [if_pos hc]
          refine ⟨rfl, ?_⟩
          have hc' : cmpT (.mk kd i n l) t = 0 := by simpa using hc
          by_cases h0 : kd = 0
          · rw [if_pos h0]
            exact (cmpT_num (.mk kd i n l) t h0).trans hc'
          · rw [if_neg h0]; exact hc'
        · cases h
theorem matL_again (k : Int) (env : Env) : ∀ (l m : List T) (e : Env), matL env l m = some e → ∀ e', Ext e e' → l.length = m.length → matL e' l m = some e' ∧ cmpL (insts e' k l) m = 0
  | [], [], e, h, e', hx, _ => by simp only [matL, insts, cmpL]; exact ⟨trivial, trivial⟩
  | [], _ :: _, e, h, e', hx, hl => by simp at hl
  | _ :: _, [], e, h, e', hx, hl => by simp at hl
  | a :: l, b :: m, e, h, e', hx, hl => by
    simp only [matL] at h ⊢
    split at h
    · rename_i e2 h2
      obtain ⟨g1, g2⟩ := matT_again k env a b e2 h2 e' ((matL_ext e2 l m e h).trans hx)
      obtain ⟨g3, g4⟩ := matL_again k e2 l m e h e' hx (by simpa using hl)
      rw [g1]
      simp only [insts]
      exact ⟨g3, cmpL_cons.2 ⟨g2, g4⟩⟩
    · cases h
end

/-! patterns without variables -/
mutual
theorem matT_ground (env : Env) : ∀ (p t : T), p.vars = [] → matT env p t = if (cmpT p t == 0) = true then some env else none
  | .mk kd i n l, t, hv => by
    rw [matT_mk]
    simp only [T.vars] at hv
    by_cases h2 : kd = 2
    · rw [if_neg (by omega), if_pos h2] at hv
      rw [if_pos h2]
      by_cases hd : t.kind = 2 ∧ t.name.toList = n.toList ∧ t.args.length = l.length
      · rw [if_pos hd, matL_ground env l t.args hv hd.2.2.symm]
        by_cases hc : cmpL l t.args = 0
        · have : cmpT (.mk kd i n l) t = 0 := (cmpT_two (p := .mk kd i n l) h2).2 ⟨hd, hc⟩
          rw [hc, this]
        · have : ¬ cmpT (.mk kd i n l) t = 0 := fun h => hc ((cmpT_two (p := .mk kd i n l) h2).1 h).2
          rw [if_neg (by simpa using hc), if_neg (by simpa using this)]
      · have : ¬ cmpT (.mk kd i n l) t = 0 := fun h => hd ((cmpT_two (p := .mk kd i n l) h2).1 h).1
        rw [if_neg hd, if_neg (by simpa using this)]
    · rw [if_neg h2]
      by_cases h1 : kd = 1
      · rw [if_pos h1] at hv; cases hv
      · rw [if_neg h1]
theorem matL_ground (env : Env) : ∀ (l m : List T), varss l = [] → l.length = m.length → matL env l m = if (cmpL l m == 0) = true then some env else none
  | [], [], _, _ => by simp [matL, cmpL]
  | [], _ :: _, _, hl => by simp at hl
  | _ :: _, [], _, hl => by simp at hl
  | a :: l, b :: m, hv, hl => by
    simp only [varss, List.append_eq_nil_iff] at hv
    simp only [matL]
    rw [matT_ground env a b hv.1]
    by_cases hc : cmpT a b = 0
    · rw [hc]
      simp only [beq_self_eq_true, ↓reduceIte]
      rw [matL_ground env l m hv.2 (by simpa using hl)]
      by_cases hd : cmpL l m = 0
      · rw [hd, cmpL_cons.2 ⟨hc, hd⟩]
      · have : ¬ cmpL (a :: l) (b :: m) = 0 := fun h => hd (cmpL_cons.1 h).2
        rw [if_neg (by simpa using hd), if_neg (by simpa using this)]
    · have : ¬ cmpL (a :: l) (b :: m) = 0 := fun h => hc (cmpL_cons.1 h).1
      rw [if_neg (by simpa using hc), if_neg (by simpa using this)]
end

/-! ascending environments -/
def asc (env : Env) : Prop := (env.map (·.1)).Pairwise (· < ·)
def ascB : Env → Bool
  | a :: b :: l => decide (a.1 < b.1) && ascB (b :: l)
  | _ => true
theorem ascB_iff : ∀ env : Env, ascB env = true ↔ asc env
  | [] => by simp [ascB, asc]
  | [a] => by simp [ascB, asc]
  | a :: b :: l => by
    have ih := ascB_iff (b :: l)
    simp only [ascB, Bool.and_eq_true, decide_eq_true_eq, ih]
    simp only [asc, List.map_cons, List.pairwise_cons, List.mem_cons, forall_eq_or_imp]
    constructor
    · rintro ⟨h1, h2, h3⟩
      exact ⟨⟨h1, fun x hx => Int.lt_trans h1 (h2 x hx)⟩, h2, h3⟩
    · rintro ⟨⟨h1, _⟩, h2, h3⟩
      exact ⟨h1, h2, h3⟩

theorem idxP_before {p : Int × T → Bool} : ∀ {l : Env} {i : Nat}, idxP p l = some i → (∀ b ∈ l.take i, p b = false) ∧ ∀ b, l[i]? = some b → p b = true
  | [], i, h => by simp [idxP] at h
  | a :: l, i, h => by
    rw [idxP] at h
    split at h
    · rename_i ha
      cases h
      exact ⟨by simp, fun b hb => by simp at hb; subst hb; exact ha⟩
    · rename_i ha
      cases hi : idxP p l with
      | none => rw [hi] at h; cases h
      | some j =>
        rw [hi] at h
        cases h
        obtain ⟨g1, g2⟩ := idxP_before hi
        refine ⟨fun b hb => ?_, fun b hb => g2 b (by simpa using hb)⟩
        rw [List.take_succ_cons] at hb
        rcases List.mem_cons.1 hb with rfl | hb
        · simpa using ha
        · exact g1 b hb
theorem idxP_none {p : Int × T → Bool} : ∀ {l : Env}, idxP p l = none → ∀ b ∈ l, p b = false
  | [], _, b, hb => by simp at hb
  | a :: l, h, b, hb => by
    rw [idxP] at h
    split at h
    · cases h
    · rename_i ha
      have hl : idxP p l = none := by
        cases hi : idxP p l with
        | none => rfl
        | some j => rw [hi] at h; cases h
      rcases List.mem_cons.1 hb with rfl | hb
      · simpa using ha
      · exact idxP_none hl b hb

theorem ext_keys (l : Env) (f : Int × T) : ∀ v, v ∈ (ext l f).map (·.1) ↔ v = f.1 ∨ v ∈ l.map (·.1) := by
  intro v
  have e : l.map (·.1) = (l.take (extK l f)).map (·.1) ++ (l.drop (extK l f)).map (·.1) := by rw [← List.map_append, List.take_append_drop]
  rw [e, ext, insL, List.map_append, List.map_append]
  simp only [List.mem_append, List.map_cons, List.map_nil, List.mem_cons, List.not_mem_nil, or_false]
  constructor
  · rintro ((h | h) | h)
    · exact .inr (.inl h)
    · exact .inl h
    · exact .inr (.inr h)
  · rintro (h | h | h)
    · exact .inl (.inr h)
    · exact .inl (.inl h)
    · exact .inr h

theorem asc_ext {l : Env} {f : Int × T} (h : asc l) (hn : look l f.1 = none) : asc (ext l f) := by
  have hm := look_none.1 hn
  have e : l.map (·.1) = (l.take (extK l f)).map (·.1) ++ (l.drop (extK l f)).map (·.1) := by rw [← List.map_append, List.take_append_drop]
  unfold asc at h ⊢
  rw [e, List.pairwise_append] at h
  obtain ⟨h1, h2, h3⟩ := h
  have lo : ∀ x ∈ (l.take (extK l f)).map (·.1), x < f.1 := by
    intro x hx
    have hx' : x ∈ l.map (·.1) := by rw [e]; exact List.mem_append_left _ hx
    have hne : x ≠ f.1 := fun h => hm (h ▸ hx')
    obtain ⟨b, hb, rfl⟩ := List.mem_map.1 hx
    have : ¬ b.1 > f.1 := by
      unfold extK at hb
      split at hb
      · rename_i i hi
        have := (idxP_before hi).1 b hb
        simpa using this
      · rename_i hi
        have := idxP_none hi b (List.mem_of_mem_take hb)
        simpa using this
    omega
  have hi : ∀ y ∈ (l.drop (extK l f)).map (·.1), f.1 < y := by
    intro y hy
    unfold extK at hy h2
    split at hy
    · rename_i i hi
      have hlt := idxP_lt hi
      simp only [hi] at h2
      have hd := (idxP_before hi).2 l[i] (List.getElem?_eq_getElem hlt)
      rw [List.drop_eq_getElem_cons hlt, List.map_cons] at hy h2
      have hd' : (l[i]).1 > f.1 := by simpa using hd
      rcases List.mem_cons.1 hy with rfl | hy
      · exact hd'
      · have := (List.pairwise_cons.1 h2).1 y hy
        omega
    · simp at hy
  rw [ext, insL, List.map_append, List.map_append, List.pairwise_append, List.pairwise_append]
  refine ⟨⟨h1, by simp, ?_⟩, h2, ?_⟩
  · intro x hx y hy
    simp only [List.map_cons, List.map_nil, List.mem_cons, List.not_mem_nil, or_false] at hy
    subst hy
    exact lo x hx
  · intro x hx y hy
    rcases List.mem_append.1 hx with hx | hx
    · exact Int.lt_trans (lo x hx) (hi y hy)
    · simp only [List.map_cons, List.map_nil, List.mem_cons, List.not_mem_nil, or_false] at hx
      subst hx
      exact hi y hy

mutual
theorem matT_asc (env : Env) : ∀ (p t : T) (e : Env), matT env p t = some e → asc env → asc e ∧ ∀ v, v ∈ e.map (·.1) ↔ v ∈ env.map (·.1) ∨ v ∈ p.vars
  | .mk k i n l, t, e, h, ha => by
    rw [matT_mk] at h
    simp only [T.vars]
    split at h
    · rename_i h2
      rw [if_neg (by omega), if_pos h2]
      split at h
      · rename_i hd
        exact matL_asc env l t.args e h ha hd.2.2.symm
      · cases h
    · rename_i h2
      split at h
      · rename_i h1
        rw [if_pos h1]
        split at h
        · rename_i b hb
          split at h
          · cases h
            refine ⟨ha, fun v => ⟨.inl, fun hv => hv.elim id fun hv => ?_⟩⟩
            simp only [List.mem_cons, List.not_mem_nil, or_false] at hv
            subst hv
            exact List.mem_map.2 ⟨(v, b), look_mem hb, rfl⟩
          · cases h
        · rename_i hn
          cases h
          refine ⟨asc_ext ha hn, fun v => ?_⟩
          rw [ext_keys]
          simp only [List.mem_cons, List.not_mem_nil, or_false]
          exact or_comm
      · rename_i h1
        rw [if_neg h1, if_neg h2]
        split at h
        · cases h
          exact ⟨ha, fun v => by simp⟩
        · cases h
theorem matL_asc (env : Env) : ∀ (l m : List T) (e : Env), matL env l m = some e → asc env → l.length = m.length → asc e ∧ ∀ v, v ∈ e.map (·.1) ↔ v ∈ env.map (·.1) ∨ v ∈ varss l
  | [], [], e, h, ha, _ => by simp only [matL] at h; cases h; exact ⟨ha, fun v => by simp [varss]⟩
  | [], _ :: _, e, h, ha, hl => by simp at hl
  | _ :: _, [], e, h, ha, hl => by simp at hl
  | a :: l, b :: m, e, h, ha, hl => by
    simp only [matL] at h
    split at h
    · rename_i e2 h2
      obtain ⟨g1, g2⟩ := matT_asc env a b e2 h2 ha
      obtain ⟨g3, g4⟩ := matL_asc e2 l m e h g1 (by simpa using hl)
      refine ⟨g3, fun v => ?_⟩
      rw [g4, g2, varss, List.mem_append, or_assoc]
    · cases h
end

/-! as many -/
theorem nodup_sub : ∀ {l m : List Int}, l.Nodup → (∀ x ∈ l, x ∈ m) → l.length ≤ m.length
  | [], m, _, _ => Nat.zero_le _
  | x :: l, m, hn, hs => by
    have hx := hs x (by simp)
    have hn' := List.nodup_cons.1 hn
    have : l.length ≤ (m.erase x).length := nodup_sub hn'.2 fun y hy => by
      have hne : y ≠ x := fun e => hn'.1 (e ▸ hy)
      exact (List.mem_erase_of_ne hne).2 (hs y (by simp [hy]))
    rw [List.length_erase_of_mem hx] at this
    have := List.length_pos_of_mem hx
    simp only [List.length_cons]
    omega
theorem asc_nodup {env : Env} (h : asc env) : (env.map (·.1)).Nodup := h.imp fun h => by omega

/-- has an environment the variables of a term, each once -/
def coversB (env : Env) (t : T) : Bool := decide ((ded [] t.vars).length = env.length) && env.all fun b => decide (b.1 ∈ ded [] t.vars)
theorem covers_of {env : Env} {t : T} (ha : asc env) (h : ∀ v, v ∈ env.map (·.1) ↔ v ∈ t.vars) : coversB env t = true := by
  have hd : ∀ v, v ∈ ded [] t.vars ↔ v ∈ t.vars := fun v => by rw [mem_ded]; simp
  have n1 : (ded [] t.vars).Nodup := nodup_ded (by simp)
  have n2 := asc_nodup ha
  have l1 := nodup_sub n1 (m := env.map (·.1)) fun x hx => (h x).2 ((hd x).1 hx)
  have l2 := nodup_sub n2 (m := ded [] t.vars) fun x hx => (hd x).2 ((h x).1 hx)
  rw [List.length_map] at l1 l2
  simp only [coversB, Bool.and_eq_true, decide_eq_true_eq, List.all_eq_true]
  exact ⟨by omega, fun b hb => (hd _).2 ((h _).1 (List.mem_map.2 ⟨b, hb, rfl⟩))⟩
theorem nodup_full : ∀ {l m : List Int}, l.Nodup → (∀ x ∈ l, x ∈ m) → m.length ≤ l.length → ∀ x ∈ m, x ∈ l
  | l, m, hn, hs, hl, x, hx => by
    apply Classical.byContradiction
    intro hxl
    have := nodup_sub (l := x :: l) (m := m) (List.nodup_cons.2 ⟨hxl, hn⟩) (by
      intro y hy
      rcases List.mem_cons.1 hy with rfl | hy
      · exact hx
      · exact hs y hy)
    simp only [List.length_cons] at this
    omega
theorem of_covers {env : Env} {t : T} (ha : asc env) (h : coversB env t = true) : ∀ v, v ∈ env.map (·.1) ↔ v ∈ t.vars := by
  have hd : ∀ v, v ∈ ded [] t.vars ↔ v ∈ t.vars := fun v => by rw [mem_ded]; simp
  simp only [coversB, Bool.and_eq_true, decide_eq_true_eq, List.all_eq_true] at h
  intro v
  have hs : ∀ x ∈ env.map (·.1), x ∈ ded [] t.vars := fun x hx => by
    obtain ⟨b, hb, rfl⟩ := List.mem_map.1 hx
    exact h.2 b hb
  refine ⟨fun hv => (hd v).1 (hs v hv), fun hv => ?_⟩
  exact nodup_full (asc_nodup ha) hs (by rw [List.length_map]; omega) v ((hd v).2 hv)

/-! matching the instance -/
mutual
theorem matT_inst (k : Int) (a : Env) : ∀ (p : T) (env : Env), (∀ v ∈ p.vars, (look a v).isSome = true) → Ext env a → ∃ e, matT env p (p.inst a k) = some e ∧ Ext e a
  | .mk kd i n l, env, hv, hx => by
    rw [inst_mk, matT_mk]
    simp only [T.vars] at hv
    by_cases h2 : kd = 2
    · rw [if_neg (by omega), if_pos h2] at hv
      rw [if_pos h2, if_pos h2]
      have hd : (T.app n (insts a k l)).kind = 2 ∧ (T.app n (insts a k l)).name.toList = n.toList ∧ (T.app n (insts a k l)).args.length = l.length := ⟨rfl, rfl, by rw [app_args, insts_length]⟩
      obtain ⟨e, g1, g2⟩ := matL_inst k a l env hv hx
      exact ⟨e, by rw [← g1]; exact if_pos hd, g2⟩
    · rw [if_neg h2, if_neg h2]
      by_cases h1 : kd = 1
      · rw [if_pos h1] at hv
        rw [if_pos h1, if_pos h1]
        obtain ⟨b, hb⟩ := Option.isSome_iff_exists.1 (hv i (by simp))
        rw [hb]
        cases he : look env i with
        | some c =>
          have : c = b := by have := hx i c he; rw [hb] at this; cases this; rfl
          subst this
          exact ⟨env, by simp [cmpT_self], hx⟩
        | none =>
          refine ⟨ext env (i, b), rfl, fun v c hc => ?_⟩
          rw [look_ext _ _ _ he] at hc
          split at hc
          · rename_i hv'
            cases hc
            rw [← hv']; exact hb
          · exact hx v c hc
      · rw [if_neg h1, if_neg h1]
        by_cases h0 : kd = 0
        · rw [if_pos h0]
          have : cmpT (.mk kd i n l) (T.num i) = 0 := by
            have h := cmpT_num (.mk kd i n l) (T.num i) h0
            rw [← h]
            exact cmpT_self _
          rw [this]
          exact ⟨env, rfl, hx⟩
        · rw [if_neg h0, cmpT_self]
          exact ⟨env, rfl, hx⟩
theorem matL_inst (k : Int) (a : Env) : ∀ (l : List T) (env : Env), (∀ v ∈ varss l, (look a v).isSome = true) → Ext env a → ∃ e, matL env l (insts a k l) = some e ∧ Ext e a
  | [], env, hv, hx => ⟨env, by simp [matL, insts], hx⟩
  | p :: l, env, hv, hx => by
    simp only [varss, List.mem_append] at hv
    obtain ⟨e, g1, g2⟩ := matT_inst k a p env (fun v h => hv v (.inl h)) hx
    obtain ⟨e2, g3, g4⟩ := matL_inst k a l e (fun v h => hv v (.inr h)) g2
    refine ⟨e2, ?_, g4⟩
    simp only [insts, matL, g1]
    exact g3
end
/-- ascending environments with the same entries -/
theorem asc_eq : ∀ {a b : Env}, asc a → asc b → (∀ v, v ∈ a.map (·.1) ↔ v ∈ b.map (·.1)) → Ext a b → a = b
  | [], [], _, _, _, _ => rfl
  | [], y :: b, _, _, h, _ => absurd ((h y.1).2 (by simp)) (by simp)
  | x :: a, [], _, _, h, _ => absurd ((h x.1).1 (by simp)) (by simp)
  | x :: a, y :: b, ha, hb, h, hx => by
    simp only [asc, List.map_cons, List.pairwise_cons] at ha hb
    obtain ⟨a1, a2⟩ := ha
    obtain ⟨b1, b2⟩ := hb
    have h1 := (h x.1).1 (by simp)
    have h2 := (h y.1).2 (by simp)
    simp only [List.map_cons, List.mem_cons] at h1 h2
    have hk : x.1 = y.1 := by
      rcases h1 with h1 | h1
      · exact h1
      · rcases h2 with h2 | h2
        · exact h2.symm
        · have := a1 _ h2; have := b1 _ h1; omega
    have hxt := hx x.1 x.2 (by simp [look])
    have ht : x.2 = y.2 := by
      rw [look, if_pos hk.symm] at hxt
      exact (Option.some.inj hxt).symm
    have e : x = y := Prod.ext hk ht
    subst e
    congr 1
    refine asc_eq (a := a) (b := b) a2 b2 (fun v => ?_) (fun v c hc => ?_)
    · have hv := h v
      simp only [List.map_cons, List.mem_cons] at hv
      constructor
      · intro hm
        rcases hv.1 (.inr hm) with e | e
        · have := a1 v hm; omega
        · exact e
      · intro hm
        rcases hv.2 (.inr hm) with e | e
        · have := b1 v hm; omega
        · exact e
    · have hm : v ∈ a.map (·.1) := List.mem_map.2 ⟨(v, c), look_mem hc, rfl⟩
      have hne : ¬ x.1 = v := by have := a1 v hm; omega
      have := hx v c (by rw [look, if_neg hne]; exact hc)
      rwa [look, if_neg hne] at this
theorem asc_nil : asc [] := by simp [asc]
theorem matT_inverts (k : Int) {a : Env} {p : T} (ha : asc a) (hc : coversB a p = true) : matT [] p (p.inst a k) = some a := by
  have hv := of_covers ha hc
  obtain ⟨e, g1, g2⟩ := matT_inst k a p [] (fun v h => by
    cases hl : look a v with
    | some b => rfl
    | none => exact absurd ((hv v).2 h) (look_none.1 hl)) (fun v b h => by simp [look] at h)
  obtain ⟨g3, g4⟩ := matT_asc [] p _ e g1 asc_nil
  rw [g1, asc_eq g3 ha (fun v => by rw [g4, hv]; simp) g2]
end Go.Proofs.Ytpfcnfcnljnnlaa.Ab
