/-
  The abstract program logic: a loop over a function, its rounds, and what hands them on.
-/
import Derived.Test.YtplnbmldkgcedaaAbQ
import Derived.RangeFuncNested
set_option linter.unusedVariables false
set_option maxHeartbeats 4000000
namespace Go.Proofs.Ytplnbmldkgcedaa.Ab

def LoopA.at (i : LoopA) (st : LoopState) (pend : Option Code) : LoopA := { i with st := st, pend := pend }

/-- the record turns -/
theorem turn_loop {c : Cx} (hs : St c) {id : Nat} {i : LoopA} (hb : c.h[id]? = some (.loop i)) {B : Nat} {r : Loop} (hρ : c.ρ id = some B) (hr : c.w.heap[B]? = some (.loop r))
    (he : (r.state = i.st ∧ r.pending = i.pend ∧ r.params = i.params ∧ r.assign = i.assign ∧ r.body = i.body ∧ r.tmps.size = i.N) ∧ ∀ t, Rel c (i.tm t) (r.tmps.getD t undef)) (st : LoopState) (pend : Option Code) :
    Ev c (c.turn (c.w.putObj B (.loop { r with state := st, pending := pend })) id (.loop (i.at st pend))) ∧
    St (c.turn (c.w.putObj B (.loop { r with state := st, pending := pend })) id (.loop (i.at st pend))) := by
  have hlt : B < c.w.heap.size := (Array.getElem?_eq_some_iff.1 hr).1
  have hold : ∀ k, k ≠ B → (c.w.putObj B (.loop { r with state := st, pending := pend })).heap[k]? = c.w.heap[k]? := fun k hk => World.putObj_heap_other hk
  have hev := Ev.turn (b' := .loop (i.at st pend)) hs hb rfl hρ (w := c.w.putObj B (.loop { r with state := st, pending := pend })) rfl rfl rfl World.putObj_size hold ⟨_, rfl, rfl⟩
  refine ⟨hev, St.turn hs hb rfl hρ hold hev ?_⟩
  refine ⟨B, { r with state := st, pending := pend }, hρ, World.putObj_heap_same hlt, ?_, fun t => (he.2 t).ev hs hev⟩
  obtain ⟨_, _, h3, h4, h5, h6⟩ := he.1
  exact ⟨rfl, rfl, h3, h4, h5, h6⟩

/-- temporaries with a round's arguments -/
def updL (tm : Nat → AV) : List Tmp → List AV → (Nat → AV)
  | t :: ts, a :: as => updL (upd tm t a) ts as
  | _, _ => tm

theorem updL_rel {c : Cx} : ∀ (ts : List Tmp) (as : List AV) (vals : List Value) (tm : Nat → AV) (tmps : Array Value), (∀ t ∈ ts, t < tmps.size) → vals.length = as.length →
    (∀ (j : Nat) a u, as[j]? = some a → vals[j]? = some u → Rel c a u) → (∀ t, Rel c (tm t) (tmps.getD t undef)) →
    (((ts.zip vals).foldl (fun (tmps : Array Value) (p : Tmp × Value) => tmps.setIfInBounds p.1 p.2) tmps).size = tmps.size) ∧
    ∀ t, Rel c (updL tm ts as t) (((ts.zip vals).foldl (fun (tmps : Array Value) (p : Tmp × Value) => tmps.setIfInBounds p.1 p.2) tmps).getD t undef)
  | [], as, vals, tm, tmps, _, _, _, h => ⟨rfl, h⟩
  | t :: ts, [], [], tm, tmps, _, _, _, h => ⟨rfl, h⟩
  | t :: ts, a :: as, u :: vals, tm, tmps, hts, hl, hr, h => by
    have := updL_rel (c := c) ts as vals (upd tm t a) (tmps.setIfInBounds t u) (fun t' ht' => by simpa using hts t' (by simp [ht'])) (by simpa using hl) (fun j a' u' h1 h2 => hr (j + 1) a' u' (by simpa using h1) (by simpa using h2)) (fun t' => by
      simp only [upd]
      split
      · rename_i e
        subst e
        rw [Array.getD_eq_getD_getElem?, Array.getElem?_setIfInBounds_self_of_lt (hts _ (by simp))]
        exact hr 0 a u rfl rfl
      · rename_i e
        rw [Array.getD_eq_getD_getElem?, Array.getElem?_setIfInBounds_ne (fun e' => e e'.symm), ← Array.getD_eq_getD_getElem?]
        exact h t')
    simpa [updL] using this
  | t :: ts, [], u :: vals, _, _, _, hl, _, _ => by simp at hl
  | t :: ts, a :: as, [], _, _, _, hl, _, _ => by simp at hl

/-- what a round owes -/
def RoundQ (id : Nat) (Q : AOut → AH → Prop) : AExit → AS → Prop
  | .normal, s => ∃ i, s.h[id]? = some (.loop i) ∧ Q (.ret (.v (.bool true))) (s.h.set id (.loop (i.at .ready none)))
  | .ret, s => ∃ i, s.h[id]? = some (.loop i) ∧ Q (.ret (.v (.bool false))) (s.h.set id (.loop (i.at .done (some .ret))))
  | .exit k, s => ∃ i, s.h[id]? = some (.loop i) ∧ Q (.ret (.v (.bool false))) (s.h.set id (.loop (i.at .done (some (.exit k)))))
  | .panic _, _ => False

/-- the left sides have been assigned to: the round begins -/
def BeginQ (P : Program) (N id : Nat) (body : Code) (Q : AOut → AH → Prop) : AExit → AS → Prop
  | .normal, s => ∃ i, s.h[id]? = some (.loop i) ∧ i.st = .ready ∧ CodeW P N body (RoundQ id Q) ⟨s.tm, s.h.set id (.loop (i.at .busy i.pend))⟩
  | _, _ => False

theorem SR.turned {N : Nat} {base : Nat × Fence} {c c' : Cx} {s : AS} {a : Act} (h : SR N base c s a) (hs : St c) (he : Ev c c') : SR N base c' ⟨s.tm, c'.h⟩ a :=
  ⟨rfl, h.size, Nat.le_trans h.above he.size, h.defers.ev he, RoundOk.ev he h.round, fun t => (h.tm t).ev hs he⟩

theorem funW_yield {P : Program} {id : Nat} {i : LoopA} {h : AH} {args : List AV} {Q : AOut → AH → Prop} (hb : h[id]? = some (.loop i)) (hn : args.length = i.params.size) (hps : ∀ t ∈ i.params.toList, t < i.N)
    (H : CodeW P i.N i.assign (BeginQ P i.N id i.body Q) ⟨updL i.tm i.params.toList args, h⟩) : FunW P (.mp id) args h Q := by
  intro F n c v vals hF hs hh hv hvs o a next Qx h1 h2
  subst hh
  cases hv with
  | mp _ x hid ho hx =>
    obtain ⟨B, hρ, rfl⟩ := hx.2 i hb
    obtain ⟨B', r, hρ', hr, he1, he2⟩ := hs.blocks id _ hb
    rw [hρ] at hρ'; cases hρ'
    obtain ⟨e1, e2, e3, e4, e5, e6⟩ := he1
    have hy := run_yield (P := P) (args := vals) hr (by rw [hvs.1, hn, e3])
    simp only [Deferred.ofValue, Sem.run_bind, Sem.run_pure, Result.andThen_ok, invoke, Array.empty_append, hy, Oper.uponIn_round]
    refine ⟨fun hd => by simp [hF.depth] at hd, RoundIn.mono (roundIn_of_wpIn (R := fun e w' => match e with | .returned v => next (a.put o.dst v) w' | _ => False) (hF.fn _) ?_) (by
      intro e w' he
      cases e with
      | returned v => exact he
      | panicked ch => exact he.elim
      | outgrown => exact he.elim)⟩
    rw [e4]
    have hl := updL_rel (c := c) i.params.toList args vals.toList i.tm r.tmps (by rw [e6]; exact hps) (by simpa using hvs.1) (fun j a' u' g1 g2 => hvs.2 j a' u' g1 (by simpa using g2)) he2
    have hz : (r.params.zip vals).foldl (fun (tmps : Array Value) (x : Tmp × Value) => match x with | (t, a) => tmps.setIfInBounds t a) r.tmps = (i.params.toList.zip vals.toList).foldl (fun (tmps : Array Value) (p : Tmp × Value) => tmps.setIfInBounds p.1 p.2) r.tmps := by
      rw [← e3, ← Array.foldl_toList, Array.toList_zip]
    rw [hz]
    refine H (F.inRound B) (n - 1) 0 c _ (hF.inRound B) hs ⟨rfl, hl.1.trans e6, Nat.zero_le _, ⟨[], rfl, List.nodup_nil, fun D h => by cases h⟩, (fun l hl => by cases hl; exact ⟨id, i, hb, hρ⟩), hl.2⟩ _ ?_
    intro e s' c' a' e' hQ hev hst hsr hex
    cases e with
    | normal =>
      cases hex
      obtain ⟨i', hi', hrd, hbody⟩ := hQ
      rw [← hsr.h] at hi' hbody
      obtain ⟨b0, hb0, hk⟩ := hev.kin id _ hb
      rw [hi'] at hb0; cases hb0
      simp only [Kin] at hk
      obtain ⟨_, _, hρ2⟩ := hk
      rw [hρ] at hρ2
      obtain ⟨B', r', hρ', hr', he'⟩ := hst.blocks id _ hi'
      rw [hρ2] at hρ'; cases hρ'
      have hrun := run_beginRound (P := P) hr' (he'.1.1.trans hrd)
      obtain ⟨hev2, hst2⟩ := turn_loop hst hi' hρ2 hr' he' .busy i'.pend
      have hrr : ({ r' with state := .busy } : Loop) = { r' with state := .busy, pending := i'.pend } := by rw [← he'.1.2.1]
      rw [hrr] at hrun
      refine ⟨_, hrun, ?_⟩
      rw [e5]
      refine hbody (F.inRound B) (n - 1) 0 (c'.turn (c'.w.putObj B (.loop { r' with state := .busy, pending := i'.pend })) id (.loop (i'.at .busy i'.pend))) a' (hF.inRound B) hst2 (SR.turned hsr hst hev2) _ ?_
      intro e s2 c2 a2 e2 hQ2 hev3 hst3 hsr3 hex3
      have fin : ∀ (st : LoopState) (jump : Option Code) (hstj : st = if jump.isNone then .ready else .done) (i2 : LoopA), s2.h[id]? = some (.loop i2) → Q (.ret (.v (.bool jump.isNone))) (s2.h.set id (.loop (i2.at st jump))) →
          ∃ v w', (Instr.endRound B jump).run P c2.w = .ok v w' ∧ next (a.put o.dst v) w' := by
        intro st jump hstj i2 hi2 hq
        rw [← hsr3.h] at hi2 hq
        have hi2' : (c'.turn (c'.w.putObj B (.loop { r' with state := .busy, pending := i'.pend })) id (.loop (i'.at .busy i'.pend))).h[id]? = some (.loop (i'.at .busy i'.pend)) := by simp [Cx.turn, lt_of_get hi']
        obtain ⟨b0, hb0, hk⟩ := hev3.kin id _ hi2'
        rw [hi2] at hb0; cases hb0
        simp only [Kin] at hk
        obtain ⟨_, _, hρ3⟩ := hk
        have hρ3 : c2.ρ id = some B := hρ3.trans hρ2
        obtain ⟨B', r2, hρ', hr2, he2⟩ := hst3.blocks id _ hi2
        rw [hρ3] at hρ'; cases hρ'
        obtain ⟨hev4, hst4⟩ := turn_loop hst3 hi2 hρ3 hr2 he2 st jump
        have hrun := run_endRound (P := P) jump hr2
        rw [← hstj] at hrun
        refine ⟨_, _, hrun, ?_⟩
        exact h1 _ _ _ hq (Ev.trans hs hev (Ev.trans hst hev2 (Ev.trans hst2 hev3 hev4))) hst4 (.v _)
      cases e with
      | normal => cases hex3; obtain ⟨i2, g1, g2⟩ := hQ2; exact fin .ready none rfl i2 g1 g2
      | ret => cases hex3; obtain ⟨i2, g1, g2⟩ := hQ2; exact fin .done (some .ret) rfl i2 g1 g2
      | exit k => cases hex3; obtain ⟨i2, g1, g2⟩ := hQ2; exact fin .done (some (.exit k)) rfl i2 g1 g2
      | panic av => exact hQ2.elim
    | ret => exact hQ.elim
    | exit k => exact hQ.elim
    | panic av => exact hQ.elim

/-- how the statement ends -/
def EndQ (Q : AExit → AS → Prop) (s : AS) : Option Code → Prop
  | none => Q .normal s
  | some .ret => Q .ret s
  | some (.exit k) => Q (.exit k) s
  | some _ => False

def LoopQ (Q : AExit → AS → Prop) (tm : Nat → AV) (id : Nat) : AOut → AH → Prop
  | .ret _, h => ∃ i, h[id]? = some (.loop i) ∧ i.st ≠ .busy ∧ EndQ Q ⟨tm, h.set id (.loop (i.at .exhausted i.pend))⟩ i.pend
  | .panic _, _ => False

theorem codeW_rangeFunc {P : Program} {N : Nat} {g : Operand} {ps : Array Tmp} {assign body : Code} {Q : AExit → AS → Prop} {tm : Nat → AV} {h : AH} {f : FuncId} {first cap : List AV} (hg : AS.ev ⟨tm, h⟩ g = .fn (.func f) first cap)
    (H : CallW P f (first ++ [.mp h.length] ++ cap) (h ++ [.loop ⟨ps, assign, body, N, tm, .ready, none⟩]) (LoopQ Q tm h.length)) : CodeW P N (.rangeFunc g ps assign body) Q ⟨tm, h⟩ := by
  intro F n base c a hF hst hr R hR
  have hh : c.h = h := hr.h
  subst hh
  have hgv := hr.eval g
  rw [show AS.ev ⟨tm, c.h⟩ g = _ from hg] at hgv
  obtain ⟨vs, ws, hae, hv1, hv2⟩ : ∃ vs ws, a.eval g = .func (.func f) vs ws ∧ RelL c first vs ∧ RelL c cap ws := by
    generalize a.eval g = u at hgv
    cases hgv with
    | fn _ _ _ vs ws e1 e2 g1 g2 => exact ⟨vs, ws, rfl, ⟨e1, g1⟩, ⟨e2, g2⟩⟩
  -- what is owed once the record is laid
  have key : ∀ (fn : FuncId) (l : Nat) (mark : List Deferred) (w1 : World) (dfs : Nat), Grows c.w w1 → c.w.heap.size ≤ l → w1.heap[l]? = some (.loop ⟨.ready, none, fn, a.tmps, ps, assign, body, dfs⟩) →
      (∀ c1, Ev c c1 → c1.w = w1 → (∀ D, D ∈ [c.w.heap.size] → D ≠ l → ¬ c1.owns D) → DefOk c1 base (mark ++ a.defers)) →
      ∃ (d : Deferred) (w₁' : World) (f' : FuncId) (args : Array Value) (w₂ : World),
      (resolve a.eval (rangeCall g l) 0).run P w1 = .ok d w₁' ∧
      (∀ f', Target.leads P w₁' d.target d.args = some f' → F.fn f') ∧
      (invoke d.target d.args).run P w₁' = .ok (.enter f' args) w₂ ∧
      (F.depth.isSome = true → 1 ≤ n) ∧
      CallsIn F (n - 1) P f' args w₂ (rangePost F n P l R { a with defers := mark ++ a.defers }) := by
    intro fn l mark w1 dfs hgr hl hrec hdef
    have hlo : ∀ B, (some l : Option Nat) = some B → c.w.heap.size ≤ B := fun B hB => by cases hB; exact hl
    have hev := Ev.add hst hgr (.loop ⟨ps, assign, body, N, tm, .ready, none⟩) (some l) hlo
    have hρ1 : (c.add w1 (.loop ⟨ps, assign, body, N, tm, .ready, none⟩) (some l)).ρ c.h.length = some l := by simp [Cx.add]
    have hst1 : St (c.add w1 (.loop ⟨ps, assign, body, N, tm, .ready, none⟩) (some l)) := St.add hst hgr _ _ hlo ⟨l, _, hρ1, hrec, ⟨rfl, rfl, rfl, rfl, rfl, hr.size⟩, fun t => (hr.tm t).ev hst hev⟩
    have hb1 : (c.add w1 (.loop ⟨ps, assign, body, N, tm, .ready, none⟩) (some l)).h[c.h.length]? = some (.loop ⟨ps, assign, body, N, tm, .ready, none⟩) := by simp [Cx.add]
    have hd1 : DefOk (c.add w1 (.loop ⟨ps, assign, body, N, tm, .ready, none⟩) (some l)) base (mark ++ a.defers) := by
      refine hdef _ hev rfl ?_
      intro D hD hne ⟨id, b, h1, h2, h3⟩
      simp only [List.mem_singleton] at hD
      subst hD
      by_cases hid : id = c.h.length
      · subst hid; rw [hρ1] at h3; cases h3; exact hne rfl
      · have hlt := lt_of_get h1
        simp only [Cx.add, List.length_append, List.length_cons, List.length_nil] at hlt
        have h4 : c.h[id]? = some b := by
          simp only [Cx.add] at h1
          rwa [List.getElem?_append_left (by omega)] at h1
        have h5 : c.ρ id = some c.w.heap.size := by simpa [Cx.add, hid] using h3
        have := hst.lt h4 h2 h5
        omega
    have hy : Rel (c.add w1 (.loop ⟨ps, assign, body, N, tm, .ready, none⟩) (some l)) (.mp c.h.length) (.func (.yield l) #[] #[]) :=
      .mp _ _ (by simp [Cx.add]) rfl ⟨fun es h => (by rw [hb1] at h; cases h), fun i _ => ⟨l, hρ1, rfl⟩⟩
    have hall : RelL (c.add w1 (.loop ⟨ps, assign, body, N, tm, .ready, none⟩) (some l)) (first ++ [.mp c.h.length] ++ cap) (vs ++ #[.func (.yield l) #[] #[]] ++ ws) :=
      RelL.append (RelL.append (hv1.ev hst hev) ⟨rfl, fun j a u h1 h2 => by
        cases j with
        | zero => simp at h1 h2; subst h1; subst h2; exact hy
        | succ j => simp at h1⟩) (hv2.ev hst hev)
    refine ⟨⟨.fn (.func f) ws, vs ++ #[.func (.yield l) #[] #[]]⟩, w1, f, vs ++ #[.func (.yield l) #[] #[]] ++ ws, w1, ?_, fun _ _ => hF.fn _, ?_, fun hd => by simp [hF.depth] at hd, ?_⟩
    · have e0 : a.eval (.const (.func (.yield l) #[] #[])) = .func (.yield l) #[] #[] := rfl
      simp only [resolve, hae, Deferred.ofValue, Sem.run_pure, List.map_toArray, List.map_cons, List.map_nil, e0]
    · simp only [invoke, H.1]
    · refine (H.2 F (n - 1) _ _ hF hst1 rfl hall).mono ?_
      rintro e w' ⟨o, c', hQ, hev2, hst2, rfl, hend⟩
      cases o with
      | panic x => exact hQ.elim
      | ret x =>
        obtain ⟨u, rfl, hu⟩ := hend
        obtain ⟨i, hi, hbusy, hq⟩ := hQ
        obtain ⟨b0, hb0, hk⟩ := hev2.kin _ _ hb1
        rw [hi] at hb0; cases hb0
        simp only [Kin] at hk
        obtain ⟨_, _, hρ2⟩ := hk
        rw [hρ1] at hρ2
        obtain ⟨B', r, hρ', hrr, he⟩ := hst2.blocks _ _ hi
        rw [hρ2] at hρ'; cases hρ'
        have hrun := run_endLoop (P := P) hrr (by rw [he.1.1]; exact hbusy)
        obtain ⟨hev4, hst4⟩ := turn_loop hst2 hi hρ2 hrr he .exhausted i.pend
        have hre : ({ r with state := .exhausted } : Loop) = { r with state := .exhausted, pending := i.pend } := by rw [← he.1.2.1]
        rw [hre] at hrun
        refine ⟨_, _, hrun, ?_⟩
        have hevA := Ev.trans hst hev (Ev.trans hst1 hev2 hev4)
        have hsr : SR N (base, F) (c'.turn (c'.w.putObj l (.loop { r with state := .exhausted, pending := i.pend })) c.h.length (.loop (i.at .exhausted i.pend))) ⟨tm, c'.h.set c.h.length (.loop (i.at .exhausted i.pend))⟩ { a with defers := mark ++ a.defers } :=
          ⟨rfl, hr.size, Nat.le_trans hr.above hevA.size, hd1.ev (Ev.trans hst1 hev2 hev4), RoundOk.ev hevA hr.round, fun t => (hr.tm t).ev hst hevA⟩
        rw [he.1.2.1]
        cases hp : i.pend with
        | none =>
          rw [hp] at hq hsr hst4 hevA
          exact hR .normal _ _ _ _ hq hevA hst4 hsr rfl
        | some j =>
          rw [hp] at hq hsr hst4 hevA
          cases j with
          | ret => exact wpIn_ret (hR .ret _ _ _ _ hq hevA hst4 hsr rfl)
          | exit k => exact wpIn_exit (hR (.exit k) _ _ _ _ hq hevA hst4 hsr rfl)
          | _ => exact hq.elim
  refine wpIn_rangeFunc fun fn hfn => ?_
  obtain ⟨Ds, e1, hnd, hall⟩ := hr.defers
  cases hro : F.round with
  | none =>
    have hgr : Grows c.w ((c.w.alloc (.deferred (some []))).alloc (.loop ⟨.ready, none, fn, a.tmps, ps, assign, body, c.w.heap.size⟩)) := Grows.trans (Grows.alloc _ _) (Grows.alloc _ _)
    have hnew := World.alloc_heap_new (c.w.alloc (.deferred (some []))) (.loop ⟨.ready, none, fn, a.tmps, ps, assign, body, c.w.heap.size⟩)
    rw [World.size_alloc] at hnew
    obtain ⟨d, w1', f', args, w2, k1, k2, k3, k4, k5⟩ := key fn (c.w.heap.size + 1) [mkMark c.w.heap.size] _ c.w.heap.size hgr (by omega) hnew (fun c1 hc1 hw hno => ⟨c.w.heap.size :: Ds, by simp [e1], List.nodup_cons.2 ⟨fun hm => by
        have := (Array.getElem?_eq_some_iff.1 (hall _ hm).2.1).1
        omega, hnd⟩, fun D hD => by
        simp only [List.mem_cons] at hD
        rcases hD with rfl | hD
        · refine ⟨hr.above, ?_, hno _ (by simp) (by omega)⟩
          rw [hw, heap_alloc_at _ _ _ (by simp)]
          exact World.alloc_heap_new _ _
        · obtain ⟨g1, g2, g3⟩ := hall D hD
          have hlt := (Array.getElem?_eq_some_iff.1 g2).1
          exact ⟨g1, (hc1.frame D hlt g3).trans g2, fun ho => g3 (hc1.owns hlt ho)⟩⟩)
    exact ⟨_, _, _, d, w1', f', args, w2, run_enterLoop_outer fn a.tmps ps assign body, k1, k2, k3, k4, k5⟩
  | some l0 =>
    obtain ⟨id0, i0, g1, g2⟩ := hr.round l0 hro
    obtain ⟨B0, r0, g3, g4, _⟩ := hst.blocks _ _ g1
    rw [g2] at g3; cases g3
    obtain ⟨d, w1', f', args, w2, k1, k2, k3, k4, k5⟩ := key fn c.w.heap.size [] _ r0.defers (Grows.alloc _ _) (Nat.le_refl _) (World.alloc_heap_new _ _) (fun c1 hc1 hw hno => DefOk.ev hc1 ⟨Ds, e1, hnd, hall⟩)
    exact ⟨_, _, _, d, w1', f', args, w2, run_enterLoop_inner g4 fn a.tmps ps assign body, k1, k2, k3, k4, k5⟩

end Go.Proofs.Ytplnbmldkgcedaa.Ab
