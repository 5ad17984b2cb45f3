/-
  The abstract program logic: a function's contract out of its body.
-/
import Derived.Test.YtplnbmldkgcedaaAbN
import Derived.RangeFuncLeaves
import Derived.RangeFuncStops
set_option linter.unusedVariables false
set_option maxHeartbeats 4000000
namespace Go.Proofs.Ytplnbmldkgcedaa.Ab

def initTm (args : List AV) : Nat → AV := fun t => args.getD t (.v undef)

/-- how a call ends: what stays of the heap, what is handed back -/
def Leaves (h h' : AH) (r : AV) (Q : AV → AH → Prop) : Prop :=
  (∃ m r', h.length ≤ m ∧ m ≤ h'.length ∧ (h'.take m = h ∨ ∀ (i : Nat) b, (h'.take m)[i]? = some b → h[i]? = some b ∨ b.Below m) ∧ Frz h' m r r' ∧ Q r' (h'.take m)) ∨ Q r h'

/-- what a body owes -/
def BodyQ (P : Program) (rs : List ResultVar) (h : AH) (Q : AOut → AH → Prop) : AExit → AS → Prop
  | .normal, s | .ret, s => ∃ r, aResults P s rs = some r ∧ Leaves h s.h r fun r h' => Q (.ret r) h'
  | .panic x, s => Leaves h s.h x fun r h' => Q (.panic r) h'
  | .exit _, _ => False

theorem leaves_sound {c c' : Cx} {r : AV} {x : Value} {Q : AV → AH → Prop} (hs : St c) (hs' : St c') (hev : Ev c c') (hr : Rel c' r x) (hl : Leaves c.h c'.h r Q) :
    ∃ c2 r', Q r' c2.h ∧ Ev c c2 ∧ St c2 ∧ c2.w = c'.w ∧ Rel c2 r' x := by
  rcases hl with ⟨m, r', h1, h2, h3, h4, h5⟩ | h5
  case inr => exact ⟨c', r, h5, hev, hs', rfl, hr⟩
  refine ⟨c'.cut m, r', h5, hev.cut h1 h2, hs'.cut h2 ?_, rfl, h4.rel hs' h2 hr⟩
  rcases h3 with h3 | h3
  · intro b hb
    have hb' := hb
    rw [h3] at hb'
    obtain ⟨j, hj⟩ := mem_get hb'
    have hm : m = c.h.length := by
      have := congrArg List.length h3
      rw [List.length_take] at this; omega
    rw [hm]
    exact hs.below hj
  · intro b hb
    obtain ⟨i, hi⟩ := mem_get hb
    rcases h3 i b hi with h6 | h6
    · exact AB.Below.mono (hs.below h6) h1
    · exact h6

theorem run_takeDeferred_empty {P : Program} {w : World} {r : Nat} (h : w.heap[r]? = some (.deferred (some []))) : (Instr.takeDeferred r).run P w = .ok [] { w with heap := w.heap.setIfInBounds r (.deferred none) } := by
  simp [Instr.takeDeferred, getObj, setObj, Sem.run, h]

/-- the marks are taken off -/
theorem leavesInM_marks {P : Program} {F : Fence} {n : Nat} {fn : Func} {tmps : Array Value} {R : Ending → World → Prop} {u : FrameMode} (hu : u ≠ .run) {c : Cx} (hs : St c) {base : Nat} : ∀ (Ds : List Nat) (w : World),
    Ds.Nodup → (∀ D ∈ Ds, base ≤ D ∧ w.heap[D]? = some (.deferred (some []))) →
    (∀ w', w'.os = w.os → w'.tape = w.tape → w'.output = w.output → w'.heap.size = w.heap.size → (∀ k, k ∉ Ds → w'.heap[k]? = w.heap[k]?) → LeavesInM F n P fn tmps R [] u w') →
    LeavesInM F n P fn tmps R (Ds.map mkMark) u w
  | [], w, _, _, h => h w rfl rfl rfl rfl fun _ _ => rfl
  | D :: Ds, w, hn, hd, h => by
    have hD := (hd D (by simp)).2
    have hlt := (Array.getElem?_eq_some_iff.1 hD).1
    simp only [List.map_cons, LeavesInM]
    refine ⟨hu, .inl ⟨D, _, rfl, run_takeDeferred_empty hD, ?_⟩⟩
    have hnd := List.nodup_cons.1 hn
    have hold : ∀ k, k ≠ D → ({ w with heap := w.heap.setIfInBounds D (.deferred none) } : World).heap[k]? = w.heap[k]? := fun k hk => by
      show (w.heap.setIfInBounds D _)[k]? = _
      rw [Array.getElem?_setIfInBounds_ne (fun e => hk e.symm)]
    refine leavesInM_marks hu hs (base := base) Ds _ hnd.2 (fun D' hD' => ⟨(hd D' (by simp [hD'])).1, ?_⟩) fun w' h1 h2 h3 h4 h5 => h w' h1 h2 h3 (by simpa using h4) fun k hk => ?_
    · have hne : D' ≠ D := fun e => hnd.1 (e ▸ hD')
      exact (hold D' hne).trans (hd D' (by simp [hD'])).2
    · simp only [List.mem_cons, not_or] at hk
      exact (h5 k hk.2).trans (hold k hk.1)

/-- blocks that nobody owns may turn, if they are no cells -/
theorem Ev.idle {c0 c : Cx} (hs : St c) (hev : Ev c0 c) {w : World} (h1 : w.os = c.w.os) (h2 : w.tape = c.w.tape) (h3 : w.output = c.w.output) (h4 : w.heap.size = c.w.heap.size)
    (h5 : ∀ k, w.heap[k]? = c.w.heap[k]? ∨ (c0.w.heap.size ≤ k ∧ ¬ c.owns k ∧ ∃ o, c.w.heap[k]? = some (.deferred o))) : Ev c0 (c.to w) := by
  refine ⟨h1.trans hev.os, h2.trans hev.tape, h3.trans hev.output, by show _ ≤ w.heap.size; rw [h4]; exact hev.size, hev.len, fun B hB ho => ?_, fun id b hb => ?_, hev.fresh⟩
  · rcases h5 B with h | ⟨h, _⟩
    · exact h.trans (hev.frame B hB ho)
    · omega
  · obtain ⟨b', hb', hk⟩ := hev.kin id b hb
    refine ⟨b', hb', ?_⟩
    cases b with
    | cells ty s xs => exact hk
    | grow e s n =>
      obtain ⟨n', e1, e2, e3, e4, e5⟩ := hk
      refine ⟨n', e1, e2, e3, e4, fun B cur hρ hc => ?_⟩
      obtain ⟨cur', h6, h7⟩ := e5 B cur hρ hc
      refine ⟨cur', ?_, h7⟩
      rcases h5 B with h | ⟨_, _, o, h⟩
      · exact h.trans h6
      · rw [h6] at h; cases h
    | map es => exact hk
    | loop i => exact hk
    | dead => exact hk

theorem Rel.idle {c : Cx} {w : World} (hsz : w.heap.size = c.w.heap.size) (h5 : ∀ (k : Nat) cs t fr, c.w.heap[k]? = some (Obj.cells cs t fr) → w.heap[k]? = c.w.heap[k]?) {a : AV} {x : Value} (h : Rel c a x) : Rel (c.to w) a x := by
  have hcell : ∀ {B o : Nat} {u : Value}, c.cellP B o u → (c.to w).cellP B o u := by
    intro B o u hc
    refine ⟨?_, by show B < w.heap.size; rw [hsz]; exact hc.2.1, hc.2.2⟩
    have h1 := hc.1
    cases hb : c.w.heap[B]? with
    | none => simp [World.cell?, hb] at h1
    | some o' =>
      cases o' with
      | cells cs t fr => exact (World.cell?_of_block (w := c.w) (a := ⟨B, o, none⟩) (h5 B cs t fr hb)).trans h1
      | _ => simp [World.cell?, hb] at h1
  induction h with
  | v x => exact .v x
  | junk x => exact .junk x
  | agg l cs hl _ ih => exact .agg l cs hl ih
  | tup l cs hl _ ih => exact .tup l cs hl ih
  | slnil s own ht => exact .slnil s own ht
  | slzero s own ba ht => exact .slzero s own ba ht
  | sl s xs own B o cap f hs' hcap hmax hc _ ht ih =>
    refine .sl s xs own B o cap f hs' hcap hmax (fun j a hj => ⟨hcell (hc j a hj).1, (hc j a hj).2⟩) ih fun b hb => ⟨(ht b hb).1, fun e s' n hg => ?_⟩
    obtain ⟨h1, h2, h3⟩ := (ht b hb).2 e s' n hg
    refine ⟨h1, h2, fun he => ?_⟩
    obtain ⟨h6, h7, h8, h9, cur, h10, h11⟩ := h3 he
    exact ⟨h6, h7, h8, h9, cur, (h5 B _ _ _ h10).trans h10, h11⟩
  | pin s xs k off B o f hs' hc _ ih => exact .pin s xs k off B o f hs' (fun j a hj => ⟨hcell (hc j a hj).1, (hc j a hj).2⟩) ih
  | ptr id k off x hid ho h1 => exact .ptr id k off x hid ho h1
  | arr id lo len x hid ho h1 => exact .arr id lo len x hid ho h1
  | mp id x hid ho h1 => exact .mp id x hid ho h1
  | fn f first cap vs ws e1 e2 _ _ ih1 ih2 => exact .fn f first cap vs ws e1 e2 ih1 ih2
  | ifc t a u _ ih => exact .ifc t a u ih

theorem St.idle {c : Cx} (hs : St c) {w : World} (hsz : w.heap.size = c.w.heap.size) (h5 : ∀ (k : Nat) (o : Obj), c.w.heap[k]? = some o → (w.heap[k]? = some o ∨ ∃ d, o = Obj.deferred d)) : St (c.to w) := by
  have hc : ∀ (k : Nat) cs t fr, c.w.heap[k]? = some (Obj.cells cs t fr) → w.heap[k]? = c.w.heap[k]? := fun k cs t fr h => by
    rcases h5 k _ h with h' | ⟨d, h'⟩
    · rw [h, h']
    · cases h'
  have hm : ∀ (k : Nat) es n, c.w.heap[k]? = some (Obj.map es n) → w.heap[k]? = c.w.heap[k]? := fun k es n h => by
    rcases h5 k _ h with h' | ⟨d, h'⟩
    · rw [h, h']
    · cases h'
  refine ⟨fun id b hb => ?_, hs.inj⟩
  have h0 := hs.blocks id b hb
  cases b with
  | cells ty s xs =>
    obtain ⟨B, cur, h1, h2, h3, h4⟩ := h0
    exact ⟨B, cur, h1, (hc B _ _ _ h2).trans h2, h3, fun j a hj => let ⟨u, h6, h7, h8⟩ := h4 j a hj; ⟨u, h6, h7, h8.idle hsz hc⟩⟩
  | grow e s n => exact fun B hB => let ⟨cur, h1, h2⟩ := h0 B hB; ⟨cur, (hc B _ _ _ h1).trans h1, h2⟩
  | map es =>
    obtain ⟨B, ents, clock, h1, h2, h3, h4⟩ := h0
    exact ⟨B, ents, clock, h1, (hm B _ _ h2).trans h2, h3, fun j kv e hj he => ⟨(h4 j kv e hj he).1, (h4 j kv e hj he).2.idle hsz hc⟩⟩
  | loop i =>
    obtain ⟨B, r, h1, h2, h3, h4⟩ := h0
    have hl : w.heap[B]? = c.w.heap[B]? := by
      rcases h5 B _ h2 with h' | ⟨d, h'⟩
      · rw [h2, h']
      · cases h'
    exact ⟨B, r, h1, hl.trans h2, h3, fun t => (h4 t).idle hsz hc⟩
  | dead => trivial

theorem callsIn_plain {F : Fence} {n : Nat} {P : Program} {f : FuncId} {args : Array Value} {w : World} {R : Ending → World → Prop} (h : CallsIn F.plain n P f args w R) : CallsIn F n P f args w R := h

theorem callW_of_body {P : Program} {f : FuncId} {fn : Func} {code : Code} {args : List AV} {h : AH} {Q : AOut → AH → Prop} (hf : P.funcs[f]? = some fn) (hb : fn.body = some code)
    (hcall : ∀ vals w, (callFunc f vals).run P w = .ok (.enter f vals) w) {N : Nat} (hN : fn.ntmps = N) {rs : List ResultVar} (hrs : fn.results.toList = rs) (hn : args.length ≤ N) (H : CodeW P N code (BodyQ P rs h Q) ⟨initTm args, h⟩) : CallW P f args h Q := by
  subst hN
  subst hrs
  refine ⟨hcall, fun F n c vals hF hs hh hvals => callsIn_plain ?_⟩
  subst hh
  refine callsIn_of_wp_marks hf hb (hF.plain.fn f) ?_
  have hsr : SR fn.ntmps (c.w.heap.size, F.plain) c ⟨initTm args, c.h⟩ { tmps := vals ++ Array.replicate (fn.ntmps - vals.size) undef, defers := [] } := by
    refine ⟨rfl, by have := hvals.1; simp; omega, Nat.le_refl _, ⟨[], rfl, List.nodup_nil, fun D h => by cases h⟩, (fun l hl => by cases hl), fun t => ?_⟩
    simp only [initTm]
    rw [Array.getD_eq_getD_getElem?, Array.getElem?_append, List.getD_eq_getElem?_getD]
    have hsz := hvals.1
    by_cases ht : t < vals.size
    · rw [if_pos ht]
      obtain ⟨u, hu⟩ : ∃ u, vals[t]? = some u := ⟨_, Array.getElem?_eq_getElem ht⟩
      obtain ⟨a, ha⟩ : ∃ a, args[t]? = some a := ⟨_, List.getElem?_eq_getElem (by omega)⟩
      rw [hu, ha]
      exact hvals.2 t a u ha hu
    · rw [if_neg ht, List.getElem?_eq_none (by omega), Array.getElem?_replicate]
      split
      · exact .v _
      · exact .v _
  refine H F.plain n c.w.heap.size c _ hF.plain hs hsr _ ?_
  intro e s' c' a' e' hQ hev hst hr hex
  -- the end, whichever way
  have fin : ∀ (u : FrameMode), u ≠ .run → (∀ (c2 : Cx), Ev c c2 → St c2 → c2.h = c'.h → (∀ a x, Rel c' a x → Rel c2 a x) → SR fn.ntmps (0, F.plain) c2 s' { a' with defers := [] } →
      LeavesInM F.plain n P fn a'.tmps (fun e w' => ∃ o c', Q o c'.h ∧ Ev c c' ∧ St c' ∧ c'.w = w' ∧ EndC c' o e) [] u c2.w) →
      LeavesInM F.plain n P fn a'.tmps (fun e w' => ∃ o c', Q o c'.h ∧ Ev c c' ∧ St c' ∧ c'.w = w' ∧ EndC c' o e) a'.defers u c'.w := by
    intro u hu hfin
    obtain ⟨Ds, e1, hnd, hall⟩ := hr.defers
    rw [e1]
    refine leavesInM_marks hu hst (base := c.w.heap.size) Ds c'.w hnd (fun D hD => ⟨(hall D hD).1, (hall D hD).2.1⟩) ?_
    intro w' h1 h2 h3 h4 h5
    have hidle : ∀ k, w'.heap[k]? = c'.w.heap[k]? ∨ (c.w.heap.size ≤ k ∧ ¬ c'.owns k ∧ ∃ o, c'.w.heap[k]? = some (.deferred o)) := by
      intro k
      by_cases hk : k ∈ Ds
      · exact .inr ⟨(hall k hk).1, (hall k hk).2.2, _, (hall k hk).2.1⟩
      · exact .inl (h5 k hk)
    have hcells : ∀ (k : Nat) cs t fr, c'.w.heap[k]? = some (Obj.cells cs t fr) → w'.heap[k]? = c'.w.heap[k]? := fun k cs t fr hk => by
      rcases hidle k with h | ⟨_, _, o, h⟩
      · exact h
      · rw [hk] at h; cases h
    have hst2 : St (c'.to w') := hst.idle h4 fun k o hk => by
      rcases hidle k with h | ⟨_, _, d, h⟩
      · exact .inl (h.trans hk)
      · rw [hk] at h; cases h; exact .inr ⟨d, rfl⟩
    have hrel : ∀ a x, Rel c' a x → Rel (c'.to w') a x := fun a x hax => hax.idle h4 hcells
    exact hfin (c'.to w') (Ev.idle hst hev h1 h2 h3 h4 hidle) hst2 rfl hrel ⟨hr.h, hr.size, Nat.zero_le _, ⟨[], rfl, List.nodup_nil, fun D h => by cases h⟩, (fun l hl => by cases hl), fun t => hrel _ _ (hr.tm t)⟩
  cases e with
  | normal =>
    cases hex
    obtain ⟨r, hres, hl⟩ := hQ
    refine fin .returning (by simp) fun c2 hev2 hst2 hh2 hrel2 hsr2 => ?_
    obtain ⟨x, hrun, hx⟩ := results_sound hst2 hsr2 hres
    rw [← hr.h, ← hh2] at hl
    obtain ⟨c3, r', h1, h2, h3, h4, h5⟩ := leaves_sound hs hst2 hev2 hx hl
    exact ⟨x, hrun, .ret r', c3, h1, h2, h3, h4, x, rfl, h5⟩
  | ret =>
    cases hex
    obtain ⟨r, hres, hl⟩ := hQ
    refine fin .returning (by simp) fun c2 hev2 hst2 hh2 hrel2 hsr2 => ?_
    obtain ⟨x, hrun, hx⟩ := results_sound hst2 hsr2 hres
    rw [← hr.h, ← hh2] at hl
    obtain ⟨c3, r', h1, h2, h3, h4, h5⟩ := leaves_sound hs hst2 hev2 hx hl
    exact ⟨x, hrun, .ret r', c3, h1, h2, h3, h4, x, rfl, h5⟩
  | panic av =>
    obtain ⟨x, rfl, hx⟩ := hex
    refine fin (.panicking [{ v := x, recovered := false }]) (by simp) fun c2 hev2 hst2 hh2 hrel2 hsr2 => ?_
    have hl : Leaves c.h s'.h av fun r h' => Q (.panic r) h' := hQ
    rw [← hr.h, ← hh2] at hl
    obtain ⟨c3, r', h1, h2, h3, h4, h5⟩ := leaves_sound hs hst2 hev2 (hrel2 _ _ hx) hl
    exact ⟨.panic r', c3, h1, h2, h3, h4, x, rfl, h5⟩
  | exit id => exact hQ.elim

end Go.Proofs.Ytplnbmldkgcedaa.Ab
