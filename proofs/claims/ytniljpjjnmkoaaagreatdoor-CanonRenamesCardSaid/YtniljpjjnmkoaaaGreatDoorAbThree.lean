/-
  An abstract program logic, contracts of functions, and laws of terms and rules (part 3).
-/
import Derived.Test.YtniljpjjnmkoaaaGreatDoorAbTwo
import Derived.RangeFuncNested
import Derived.Laws.Externs
import Derived.Below
import Derived.Lib.Strings
import Derived.Shelf.Strings.Builder1
import Derived.Shelf.Strings.Builder2
import Derived.Shelf.Strings.OnBuilder
import Derived.Shelf.Small.Bits
import Derived.Shelf.Strconv.Itoa0
import Derived.Shelf.Strconv.Itoa1
import Derived.Shelf.LaysM
import Derived.Shelf.Strconv.Itoa2
import Derived.Shelf.Strconv.Itoa3
import Derived.Shelf.Strings.Search1
import Derived.Shelf.Strings.Search2
import Derived.Shelf.Strings.Search3
import Derived.Shelf.Strings.Shaped
import Derived.Test.YtniljpjjnmkoaaaGreatDoorProg
import Derived.Lib.ConvBytes
import Derived.Lib.AtoiErrMem
set_option linter.unusedVariables false
set_option linter.unusedSimpArgs false
set_option maxHeartbeats 4000000
namespace Go.Proofs.YtniljpjjnmkoaaaGreatDoor.Ab
def LoopA.at (i : LoopA) (st : LoopState) (pend : Option Code) : LoopA := { i with st := st, pend := pend }
theorem QdF {c : Cx} (hs : St c) {id : Nat} {i : LoopA} (hb : c.h[id]? = some (.loop i)) {B : Nat} {r : Loop} (hρ : c.ρ id = some B) (hr : c.w.heap[B]? = some (.loop r))
  (he : (r.state = i.st ∧ r.pending = i.pend ∧ r.params = i.params ∧ r.assign = i.assign ∧ r.body = i.body ∧ r.tmps.size = i.N) ∧ ∀ t, Rel c (i.tm t) (r.tmps.getD t undef)) (st : LoopState) (pend : Option Code) :
  Ev c (c.turn (c.w.putObj B (.loop { r with state := st, pending := pend })) id (.loop (i.at st pend))) ∧
  St (c.turn (c.w.putObj B (.loop { r with state := st, pending := pend })) id (.loop (i.at st pend))) := by
 have hlt : B < c.w.heap.size := (Array.getElem?_eq_some_iff.1 hr).1
 have hold : ∀ k, k ≠ B → (c.w.putObj B (.loop { r with state := st, pending := pend })).heap[k]? = c.w.heap[k]? := fun k hk => World.putObj_heap_other hk
 have hev := Ev.turn (b' := .loop (i.at st pend)) hs hb rfl hρ (w := c.w.putObj B (.loop { r with state := st, pending := pend })) rfl rfl rfl World.putObj_size hold ⟨_, rfl, rfl⟩
 refine ⟨hev, St.turn hs hb rfl hρ hold hev ?_⟩
 refine ⟨B, { r with state := st, pending := pend }, hρ, World.putObj_heap_same hlt, ?_, fun t => (he.2 t).ev hs hev⟩
 obtain ⟨_, _, h3, h4, h5, h6⟩ := he.1
 exact ⟨rfl, rfl, h3, h4, h5, h6⟩
def updL (tm : Nat → AV) : List Tmp → List AV → (Nat → AV)
 | t :: ts, a :: asx => updL (upd tm t a) ts asx
 | _, _ => tm
theorem Qix {c : Cx} : ∀ (ts : List Tmp) (asx : List AV) (vals : List Value) (tm : Nat → AV) (tmps : Array Value), (∀ t ∈ ts, t < tmps.size) → vals.length = asx.length →
  (∀ (j : Nat) a u, asx[j]? = some a → vals[j]? = some u → Rel c a u) → (∀ t, Rel c (tm t) (tmps.getD t undef)) →
  (((ts.zip vals).foldl (fun (tmps : Array Value) (p : Tmp × Value) => tmps.setIfInBounds p.1 p.2) tmps).size = tmps.size) ∧
  ∀ t, Rel c (updL tm ts asx t) (((ts.zip vals).foldl (fun (tmps : Array Value) (p : Tmp × Value) => tmps.setIfInBounds p.1 p.2) tmps).getD t undef)
 | [], asx, vals, tm, tmps, _, _, _, h => ⟨rfl, h⟩
 | t :: ts, [], [], tm, tmps, _, _, _, h => ⟨rfl, h⟩
 | t :: ts, a :: asx, u :: vals, tm, tmps, hts, hl, hr, h => by
  have := Qix (c := c) ts asx vals (upd tm t a) (tmps.setIfInBounds t u) (fun t' ht' => by simpa using hts t' (by simp [ht'])) (by simpa using hl) (fun j a' u' h1 h2 => hr (j + 1) a' u' (by simpa using h1) (by simpa using h2)) (fun t' => by
   simp only [upd]
   split
   ·rename_i e
    subst e
    rw [Array.getD_eq_getD_getElem?, Array.getElem?_setIfInBounds_self_of_lt (hts _ (by simp))]
    exact hr 0 a u rfl rfl
   ·rename_i e
    rw [Array.getD_eq_getD_getElem?, Array.getElem?_setIfInBounds_ne (fun e' => e e'.symm), ← Array.getD_eq_getD_getElem?]
    exact h t')
  simpa [updL] using this
 | t :: ts, [], u :: vals, _, _, _, hl, _, _ => by simp at hl
 | t :: ts, a :: asx, [], _, _, _, hl, _, _ => by simp at hl
def Qn9 (id : Nat) (Q : AOut → AH → Prop) : AExit → AS → Prop
 | .normal, s => ∃ i, s.h[id]? = some (.loop i) ∧ Q (.ret (.v (.bool true))) (s.h.set id (.loop (i.at .ready none)))
 | .ret, s => ∃ i, s.h[id]? = some (.loop i) ∧ Q (.ret (.v (.bool false))) (s.h.set id (.loop (i.at .done (some .ret))))
 | .exit k, s => ∃ i, s.h[id]? = some (.loop i) ∧ Q (.ret (.v (.bool false))) (s.h.set id (.loop (i.at .done (some (.exit k)))))
 | .panic _, _ => False
def Qn7 (P : Program) (N id : Nat) (body : Code) (Q : AOut → AH → Prop) : AExit → AS → Prop
 | .normal, s => ∃ i, s.h[id]? = some (.loop i) ∧ i.st = .ready ∧ Xz P N body (Qn9 id Q) ⟨s.tm, s.h.set id (.loop (i.at .busy i.pend))⟩
 | _, _ => False
theorem SR.turned {N : Nat} {base : Bs × Fence} {c c' : Cx} {s : AS} {a : Act} (h : SR N base c s a) (hs : St c) (he : Ev c c') : SR N base c' ⟨s.tm, c'.h⟩ a :=
 ⟨rfl, h.size, Nat.le_trans h.above he.size, h.defers.ev he, RoundOk.ev he h.round, fun t => (h.tm t).ev hs he⟩
theorem Qd8 {P : Program} {id : Nat} {i : LoopA} {h : AH} {args : List AV} {Q : AOut → AH → Prop} (hb : h[id]? = some (.loop i)) (hn : args.length = i.params.size) (hps : ∀ t ∈ i.params.toList, t < i.N)
  (H : Xz P i.N i.assign (Qn7 P i.N id i.body Q) ⟨updL i.tm i.params.toList args, h⟩) : FunW P (.mp id) args h Q := by
 intro F n c v vals hF hs hh hv hvs o a next Qx h1 h2
 subst hh
 cases hv with
 | mp _ x hid ho hx =>
  obtain ⟨B, hρ, rfl⟩ := hx.2.1 i hb
  obtain ⟨B', r, hρ', hr, he1, he2⟩ := hs.blocks id _ hb
  rw [hρ] at hρ'; cases hρ'
  obtain ⟨e1, e2, e3, e4, e5, e6⟩ := he1
  have hy := run_yield (P := P) (args := vals) hr (by rw [hvs.1, hn, e3])
  simp only [Deferred.ofValue, Sem.run_bind, Sem.run_pure, Result.andThen_ok, invoke, Array.empty_append, hy, Oper.uponIn_round]
  refine ⟨fun hd => by simp [hF.depth] at hd, RoundIn.mono (roundIn_of_wpIn (R := fun e w' => match e with | .returned v => next (a.put o.dst v) w' | _ => False) (hF.fn _) ?_) (by
   intro e w' he
   cases e with
   | returned v => exact he
   | panicked ch => exact he.elim
   | outgrown => exact he.elim)⟩
  rw [e4]
  have hl := Qix (c := c) i.params.toList args vals.toList i.tm r.tmps (by rw [e6]; exact hps) (by simpa using hvs.1) (fun j a' u' g1 g2 => hvs.2 j a' u' g1 (by simpa using g2)) he2
  have hz : (r.params.zip vals).foldl (fun (tmps : Array Value) (x : Tmp × Value) => match x with | (t, a) => tmps.setIfInBounds t a) r.tmps = (i.params.toList.zip vals.toList).foldl (fun (tmps : Array Value) (p : Tmp × Value) => tmps.setIfInBounds p.1 p.2) r.tmps := by
   rw [← e3, ← Array.foldl_toList, Array.toList_zip]
  rw [hz]
  refine H (F.inRound B) (n - 1) ⟨0, []⟩ c _ (hF.inRound B) hs ⟨rfl, hl.1.trans e6, Nat.zero_le _, ⟨[], rfl, List.nodup_nil, fun D h => by cases h⟩, (fun l hl => by cases hl; exact ⟨id, i, hb, hρ⟩), hl.2⟩ _ ?_
  intro e s' c' a' e' hQ hev hst hsr hex
  cases e with
  | normal =>
   cases hex
   obtain ⟨i', hi', hrd, hbody⟩ := hQ
   rw [← hsr.h] at hi' hbody
   obtain ⟨b0, hb0, hk⟩ := hev.kin id _ hb
   rw [hi'] at hb0; cases hb0
   simp only [Kin] at hk
   obtain ⟨_, _, hρ2⟩ := hk
   rw [hρ] at hρ2
   obtain ⟨B', r', hρ', hr', he'⟩ := hst.blocks id _ hi'
   rw [hρ2] at hρ'; cases hρ'
   have hrun := run_beginRound (P := P) hr' (he'.1.1.trans hrd)
   obtain ⟨hev2, hst2⟩ := QdF hst hi' hρ2 hr' he' .busy i'.pend
   have hrr : ({ r' with state := .busy } : Loop) = { r' with state := .busy, pending := i'.pend } := by rw [← he'.1.2.1]
   rw [hrr] at hrun
   refine ⟨_, hrun, ?_⟩
   rw [e5]
   refine hbody (F.inRound B) (n - 1) ⟨0, []⟩ (c'.turn (c'.w.putObj B (.loop { r' with state := .busy, pending := i'.pend })) id (.loop (i'.at .busy i'.pend))) a' (hF.inRound B) hst2 (SR.turned hsr hst hev2) _ ?_
   intro e s2 c2 a2 e2 hQ2 hev3 hst3 hsr3 hex3
   have fin : ∀ (st : LoopState) (jump : Option Code) (hstj : st = if jump.isNone then .ready else .done) (i2 : LoopA), s2.h[id]? = some (.loop i2) → Q (.ret (.v (.bool jump.isNone))) (s2.h.set id (.loop (i2.at st jump))) →
     ∃ v w', (Instr.endRound B jump).run P c2.w = .ok v w' ∧ next (a.put o.dst v) w' := by
    intro st jump hstj i2 hi2 hq
    rw [← hsr3.h] at hi2 hq
    have hi2' : (c'.turn (c'.w.putObj B (.loop { r' with state := .busy, pending := i'.pend })) id (.loop (i'.at .busy i'.pend))).h[id]? = some (.loop (i'.at .busy i'.pend)) := by simp [Cx.turn, QF hi']
    obtain ⟨b0, hb0, hk⟩ := hev3.kin id _ hi2'
    rw [hi2] at hb0; cases hb0
    simp only [Kin] at hk
    obtain ⟨_, _, hρ3⟩ := hk
    have hρ3 : c2.ρ id = some B := hρ3.trans hρ2
    obtain ⟨B', r2, hρ', hr2, he2⟩ := hst3.blocks id _ hi2
    rw [hρ3] at hρ'; cases hρ'
    obtain ⟨hev4, hst4⟩ := QdF hst3 hi2 hρ3 hr2 he2 st jump
    have hrun := run_endRound (P := P) jump hr2
    rw [← hstj] at hrun
    refine ⟨_, _, hrun, ?_⟩
    exact h1 _ _ _ hq (Ev.trans hs hev (Ev.trans hst hev2 (Ev.trans hst2 hev3 hev4))) hst4 (.v _)
   cases e with
   | normal => cases hex3; obtain ⟨i2, g1, g2⟩ := hQ2; exact fin .ready none rfl i2 g1 g2
   | ret => cases hex3; obtain ⟨i2, g1, g2⟩ := hQ2; exact fin .done (some .ret) rfl i2 g1 g2
   | exit k => cases hex3; obtain ⟨i2, g1, g2⟩ := hQ2; exact fin .done (some (.exit k)) rfl i2 g1 g2
   | panic av => exact hQ2.elim
  | ret => exact hQ.elim
  | exit k => exact hQ.elim
  | panic av => exact hQ.elim
def EndQ (Q : AExit → AS → Prop) (s : AS) : Option Code → Prop
 | none => Q .normal s
 | some .ret => Q .ret s
 | some (.exit k) => Q (.exit k) s
 | some _ => False
def QoI (Q : AExit → AS → Prop) (tm : Nat → AV) (id : Nat) : AOut → AH → Prop
 | .ret _, h => ∃ i, h[id]? = some (.loop i) ∧ i.st ≠ .busy ∧ EndQ Q ⟨tm, h.set id (.loop (i.at .exhausted i.pend))⟩ i.pend
 | .panic _, _ => False
theorem Qal {P : Program} {N : Nat} {g : Operand} {ps : Array Tmp} {assign body : Code} {Q : AExit → AS → Prop} {tm : Nat → AV} {h : AH} {f : FuncId} {first cap : List AV} (hg : AS.ev ⟨tm, h⟩ g = .fn (.func f) first cap)
  (H : Xf P f (first ++ [.mp h.length] ++ cap) (h ++ [.loop ⟨ps, assign, body, N, tm, .ready, none⟩]) (QoI Q tm h.length)) : Xz P N (.rangeFunc g ps assign body) Q ⟨tm, h⟩ := by
 intro F n base c a hF hst hr R hR
 have hh : c.h = h := hr.h
 subst hh
 have hgv := hr.eval g
 rw [show AS.ev ⟨tm, c.h⟩ g = _ from hg] at hgv
 obtain ⟨vs, ws, hae, hv1, hv2⟩ : ∃ vs ws, a.eval g = .func (.func f) vs ws ∧ RelL c first vs ∧ RelL c cap ws := by
  generalize a.eval g = u at hgv
  cases hgv with
  | fn _ _ _ vs ws e1 e2 g1 g2 => exact ⟨vs, ws, rfl, ⟨e1, g1⟩, ⟨e2, g2⟩⟩
 -- what is owed once the record is laid
 have key : ∀ (fn : FuncId) (l : Nat) (mark : List Deferred) (w1 : World) (dfs : Nat), Grows c.w w1 → c.w.heap.size ≤ l → w1.heap[l]? = some (.loop ⟨.ready, none, fn, a.tmps, ps, assign, body, dfs⟩) →
   (∀ c1, Ev c c1 → c1.w = w1 → (∀ D, D ∈ [c.w.heap.size] → D ≠ l → ¬ c1.owns D) → DefOk c1 base (mark ++ a.defers)) →
   ∃ (d : Deferred) (w₁' : World) (f' : FuncId) (args : Array Value) (w₂ : World),
   (resolve a.eval (rangeCall g l) 0).run P w1 = .ok d w₁' ∧
   (∀ f', Target.leads P w₁' d.target d.args = some f' → F.fn f') ∧
   (invoke d.target d.args).run P w₁' = .ok (.enter f' args) w₂ ∧
   (F.depth.isSome = true → 1 ≤ n) ∧
   CallsIn F (n - 1) P f' args w₂ (rangePost F n P l R { a with defers := mark ++ a.defers }) := by
  intro fn l mark w1 dfs hgr hl hrec hdef
  have hlo : ∀ B, (some l : Option Nat) = some B → c.w.heap.size ≤ B := fun B hB => by cases hB; exact hl
  have hev := Ev.add hst hgr (.loop ⟨ps, assign, body, N, tm, .ready, none⟩) (some l) hlo
  have hρ1 : (c.add w1 (.loop ⟨ps, assign, body, N, tm, .ready, none⟩) (some l)).ρ c.h.length = some l := by simp [Cx.add]
  have hst1 : St (c.add w1 (.loop ⟨ps, assign, body, N, tm, .ready, none⟩) (some l)) := St.add hst hgr _ _ hlo ⟨l, _, hρ1, hrec, ⟨rfl, rfl, rfl, rfl, rfl, hr.size⟩, fun t => (hr.tm t).ev hst hev⟩
  have hb1 : (c.add w1 (.loop ⟨ps, assign, body, N, tm, .ready, none⟩) (some l)).h[c.h.length]? = some (.loop ⟨ps, assign, body, N, tm, .ready, none⟩) := by simp [Cx.add]
  have hd1 : DefOk (c.add w1 (.loop ⟨ps, assign, body, N, tm, .ready, none⟩) (some l)) base (mark ++ a.defers) := by
   refine hdef _ hev rfl ?_
   intro D hD hne ⟨id, b, h1, h2, h3⟩
   simp only [List.mem_singleton] at hD
   subst hD
   by_cases hid : id = c.h.length
   ·subst hid; rw [hρ1] at h3; cases h3; exact hne rfl
   ·have hlt := QF h1
    simp only [Cx.add, QqD, QpZ, Qp0] at hlt
    have h4 : c.h[id]? = some b := by
     simp only [Cx.add] at h1
     rwa [List.getElem?_append_left (by omega)] at h1
    have h5 : c.ρ id = some c.w.heap.size := by simpa [Cx.add, hid] using h3
    have := hst.lt h4 h2 h5
    omega
  have hy : Rel (c.add w1 (.loop ⟨ps, assign, body, N, tm, .ready, none⟩) (some l)) (.mp c.h.length) (.func (.yield l) #[] #[]) :=
   .mp _ _ (by simp [Cx.add]) rfl ⟨fun es h => (by rw [hb1] at h; cases h), fun i _ => ⟨l, hρ1, rfl⟩, fun s p h => (by rw [hb1] at h; cases h)⟩
  have hall : RelL (c.add w1 (.loop ⟨ps, assign, body, N, tm, .ready, none⟩) (some l)) (first ++ [.mp c.h.length] ++ cap) (vs ++ #[.func (.yield l) #[] #[]] ++ ws) :=
   RelL.append (RelL.append (hv1.ev hst hev) ⟨rfl, fun j a u h1 h2 => by
    cases j with
    | zero => simp at h1 h2; subst h1; subst h2; exact hy
    | succ j => simp at h1⟩) (hv2.ev hst hev)
  refine ⟨⟨.fn (.func f) ws, vs ++ #[.func (.yield l) #[] #[]]⟩, w1, f, vs ++ #[.func (.yield l) #[] #[]] ++ ws, w1, ?_, fun _ _ => hF.fn _, ?_, fun hd => by simp [hF.depth] at hd, ?_⟩
  ·have e0 : a.eval (.const (.func (.yield l) #[] #[])) = .func (.yield l) #[] #[] := rfl
   simp only [resolve, hae, Deferred.ofValue, Sem.run_pure, List.map_toArray, Qp1, Qp5, e0]
  ·simp only [invoke, H.1]
  ·refine (H.2 F (n - 1) _ _ hF hst1 rfl hall).mono ?_
   rintro e w' ⟨o, c', hQ, hev2, hst2, rfl, hend⟩
   cases o with
   | panic x => exact hQ.elim
   | ret x =>
    obtain ⟨u, rfl, hu⟩ := hend
    obtain ⟨i, hi, hbusy, hq⟩ := hQ
    obtain ⟨b0, hb0, hk⟩ := hev2.kin _ _ hb1
    rw [hi] at hb0; cases hb0
    simp only [Kin] at hk
    obtain ⟨_, _, hρ2⟩ := hk
    rw [hρ1] at hρ2
    obtain ⟨B', r, hρ', hrr, he⟩ := hst2.blocks _ _ hi
    rw [hρ2] at hρ'; cases hρ'
    have hrun := run_endLoop (P := P) hrr (by rw [he.1.1]; exact hbusy)
    obtain ⟨hev4, hst4⟩ := QdF hst2 hi hρ2 hrr he .exhausted i.pend
    have hre : ({ r with state := .exhausted } : Loop) = { r with state := .exhausted, pending := i.pend } := by rw [← he.1.2.1]
    rw [hre] at hrun
    refine ⟨_, _, hrun, ?_⟩
    have hevA := Ev.trans hst hev (Ev.trans hst1 hev2 hev4)
    have hsr : SR N (base, F) (c'.turn (c'.w.putObj l (.loop { r with state := .exhausted, pending := i.pend })) c.h.length (.loop (i.at .exhausted i.pend))) ⟨tm, c'.h.set c.h.length (.loop (i.at .exhausted i.pend))⟩ { a with defers := mark ++ a.defers } :=
     ⟨rfl, hr.size, Nat.le_trans hr.above hevA.size, hd1.ev (Ev.trans hst1 hev2 hev4), RoundOk.ev hevA hr.round, fun t => (hr.tm t).ev hst hevA⟩
    rw [he.1.2.1]
    cases hp : i.pend with
    | none =>
     rw [hp] at hq hsr hst4 hevA
     exact hR .normal _ _ _ _ hq hevA hst4 hsr rfl
    | some j =>
     rw [hp] at hq hsr hst4 hevA
     cases j with
     | ret => exact wpIn_ret (hR .ret _ _ _ _ hq hevA hst4 hsr rfl)
     | exit k => exact wpIn_exit (hR (.exit k) _ _ _ _ hq hevA hst4 hsr rfl)
     | _ => exact hq.elim
 refine wpIn_rangeFunc fun fn hfn => ?_
 obtain ⟨Ds, e1, hnd, hall⟩ := hr.defers
 cases hro : F.round with
 | none =>
  have hgr : Grows c.w ((c.w.alloc (.deferred (some []))).alloc (.loop ⟨.ready, none, fn, a.tmps, ps, assign, body, c.w.heap.size⟩)) := Grows.trans (Grows.alloc _ _) (Grows.alloc _ _)
  have hnew := World.alloc_heap_new (c.w.alloc (.deferred (some []))) (.loop ⟨.ready, none, fn, a.tmps, ps, assign, body, c.w.heap.size⟩)
  rw [World.size_alloc] at hnew
  obtain ⟨d, w1', f', args, w2, k1, k2, k3, k4, k5⟩ := key fn (c.w.heap.size + 1) [Qhf c.w.heap.size] _ c.w.heap.size hgr (by omega) hnew (fun c1 hc1 hw hno => ⟨c.w.heap.size :: Ds, by simp [e1], List.nodup_cons.2 ⟨fun hm => by
    have := (Array.getElem?_eq_some_iff.1 (hall _ hm).2.1).1
    omega, hnd⟩, fun D hD => by
    simp only [List.mem_cons] at hD
    rcases hD with rfl | hD
    ·refine ⟨hr.above, ?_, hno _ (by simp) (by omega)⟩
     rw [hw, Qbh _ _ _ (by simp)]
     exact World.alloc_heap_new _ _
    ·obtain ⟨g1, g2, g3⟩ := hall D hD
     have hlt := (Array.getElem?_eq_some_iff.1 g2).1
     exact ⟨g1, (hc1.frame D hlt g3).trans g2, fun ho => g3 (hc1.owns hlt ho)⟩⟩)
  exact ⟨_, _, _, d, w1', f', args, w2, run_enterLoop_outer fn a.tmps ps assign body, k1, k2, k3, k4, k5⟩
 | some l0 =>
  obtain ⟨id0, i0, g1, g2⟩ := hr.round l0 hro
  obtain ⟨B0, r0, g3, g4, _⟩ := hst.blocks _ _ g1
  rw [g2] at g3; cases g3
  obtain ⟨d, w1', f', args, w2, k1, k2, k3, k4, k5⟩ := key fn c.w.heap.size [] _ r0.defers (Grows.alloc _ _) (Nat.le_refl _) (World.alloc_heap_new _ _) (fun c1 hc1 hw hno => DefOk.ev hc1 ⟨Ds, e1, hnd, hall⟩)
  exact ⟨_, _, _, d, w1', f', args, w2, run_enterLoop_inner g4 fn a.tmps ps assign body, k1, k2, k3, k4, k5⟩
theorem QdC {c : Cx} (hs : St c) (e s : Nat) : Ev c (c.add c.w (.grow e s 0) none) ∧ St (c.add c.w (.grow e s 0) none) := by
 have hg := Grows.refl c.w
 have ho : ∀ B, (none : Option Nat) = some B → c.w.heap.size ≤ B := fun B h => by cases h
 have hρ : (c.add c.w (.grow e s 0) none).ρ c.h.length = none := by simp [Cx.add]
 exact ⟨Ev.add hs hg (.grow e s 0) none ho, St.add hs hg _ _ ho (fun B hB => by rw [hρ] at hB; cases hB)⟩
theorem Qkp {c : Cx} (hst : St c) (id ty e s : Nat) (hb : c.h[id]? = some (.cells ty 1 [.v (.slice none 0 0)])) :
  ∃ c2, Ev c c2 ∧ St c2 ∧ c2.h = (c.h ++ [AB.grow e s 0]).set id (AB.cells ty 1 [.sl s [] (some c.h.length)]) ∧ c2.w = c.w := by
 obtain ⟨hev, hst1⟩ := QdC hst e s
 have hlt := QF hb
 have hb1 : (c.add c.w (.grow e s 0) none).h[id]? = some (.cells ty 1 [.v (.slice none 0 0)]) := by
  simp only [Cx.add]; rw [List.getElem?_append_left hlt]; exact hb
 obtain ⟨B, cur, hρ, hcur, h3, h4⟩ := hst1.blocks id _ hb1
 have hev2 := Ev.turn (b' := .cells ty 1 [.sl s [] (some c.h.length)]) hst1 hb1 rfl hρ (w := c.w) rfl rfl rfl rfl (fun _ _ => rfl) (.inr ⟨_, rfl, rfl, fun _ cur _ h => ⟨cur, h, rfl⟩⟩)
 have htok : ((c.add c.w (.grow e s 0) none).turn c.w id (.cells ty 1 [.sl s [] (some c.h.length)])).tokNil c.h.length s := by
  refine ⟨by simp [Cx.turn, Cx.add], fun e2 s2 n2 hg2 => ?_⟩
  simp only [Cx.turn, Cx.add] at hg2
  rw [List.getElem?_set_ne (by omega), List.getElem?_append_right (Nat.le_refl _), Nat.sub_self] at hg2
  simp at hg2
  exact ⟨hg2.2.1.symm, fun _ => by simp [Cx.turn, Cx.add]⟩
 have hst2 := St.turn (b' := .cells ty 1 [.sl s [] (some c.h.length)]) hst1 hb1 rfl hρ (w := c.w) (fun _ _ => rfl) hev2 ⟨B, cur, hρ, hcur, (by simp [AV.cells]), by
  intro j a' hj
  cases j with
  | zero =>
   simp only [flat, List.flatMap_cons, List.flatMap_nil, AV.cells, Qqf, QpM, QpS] at hj
   subst hj
   obtain ⟨u, g1, g2, g3⟩ := h4 0 _ (by simp [flat, AV.cells]; rfl)
   cases g3
   exact ⟨_, g1, g2, .slnil _ _ fun b hb => by cases hb; exact htok⟩
  | succ j => simp [flat, AV.cells] at hj⟩
 exact ⟨_, Ev.trans hst hev hev2, hst2, rfl, rfl⟩
theorem QdO {P : Program} {N : Nat} {code : Code} {Q : AExit → AS → Prop} {tm : Nat → AV} {h : AH} (id ty e s : Nat) (hb : h[id]? = some (.cells ty 1 [.v (.slice none 0 0)]))
  (H : Xz P N code Q ⟨tm, (h ++ [AB.grow e s 0]).set id (AB.cells ty 1 [.sl s [] (some h.length)])⟩) : Xz P N code Q ⟨tm, h⟩ := by
 intro F n base c a hF hst hr R hR
 have hh : c.h = h := hr.h
 subst hh
 obtain ⟨c2, hev, hst2, hh2, hw⟩ := Qkp hst id ty e s hb
 rw [← hw]
 exact H F n base c2 a hF hst2 ⟨hh2, hr.size, Nat.le_trans hr.above hev.size, hr.defers.ev hev, RoundOk.ev hev hr.round, fun t => (hr.tm t).ev hst hev⟩ R fun e' s' c' a' ex hq h1 h2 h3 h4 => hR e' s' c' a' ex hq (Ev.trans hst hev h1) h2 h3 h4
theorem Qhz {P : Program} {fv : AV} {args : List AV} {h : AH} {Q : AOut → AH → Prop} (e s : Nat) (H : FunW P fv (.sl s [] (some h.length) :: args) (h ++ [.grow e s 0]) Q) : FunW P fv (.v (.slice none 0 0) :: args) h Q := by
 intro F n c v vals hF hs hh hv hvs o a next Qx h1 h2
 subst hh
 obtain ⟨hev, hst1⟩ := QdC hs e s
 refine H F n (c.add c.w (.grow e s 0) none) v vals hF hst1 rfl (hv.ev hs hev) ⟨hvs.1, fun j a u hj hu => ?_⟩ o a next Qx (fun r c' x hQ he => h1 r c' x hQ (Ev.trans hs hev he)) (fun r c' x hQ he => h2 r c' x hQ (Ev.trans hs hev he))
 cases j with
 | zero =>
  simp only [QpM, QpS] at hj
  subst hj
  have := hvs.2 0 _ u rfl hu
  cases this
  exact .slnil _ _ (Qef e s)
 | succ j => exact (hvs.2 (j + 1) a u (by simpa using hj) hu).ev hs hev
theorem Qiz {h : AH} {m : Nat} : ∀ (j : Nat) (a a' : AV), ([] : List AV)[j]? = some a → ([] : List AV)[j]? = some a' → Frz h m a a' := fun j a a' h1 => by simp at h1
theorem X3 {h : AH} {m : Nat} {x y : AV} (hf : Frz h m x y) : ∀ (j : Nat) (a a' : AV), [x][j]? = some a → [y][j]? = some a' → Frz h m a a'
 | 0, a, a', h1, h2 => by simp at h1 h2; subst h1; subst h2; exact hf
 | j + 1, a, a', h1, _ => by simp at h1
theorem Xe {h : AH} {m : Nat} {x y : AV} {l l' : List AV} (hf : Frz h m x y) (hl : ∀ (j : Nat) (a a' : AV), l[j]? = some a → l'[j]? = some a' → Frz h m a a') : ∀ (j : Nat) (a a' : AV), (x :: l)[j]? = some a → (y :: l')[j]? = some a' → Frz h m a a'
 | 0, a, a', h1, h2 => by simp at h1 h2; subst h1; subst h2; exact hf
 | j + 1, a, a', h1, h2 => hl j a a' (by simpa using h1) (by simpa using h2)
theorem Qhj (Q : AExit → AS → Prop) (s : AS) : EndQ Q s none = Q .normal s := rfl
def ikey (n : Int) : Value := .int .i64 n
def imap (l : List (Int × AV)) : List (Value × AV) := l.map fun p => (ikey p.1, p.2)
def QaO (k : Int) : List (Int × AV) → Option AV
 | [] => none
 | p :: l => if k = p.1 then some p.2 else QaO k l
theorem Qmn (a b : Int) : Instr.sameNow (.int .i64) (ikey a) (ikey b) = some (a == b) := rfl
theorem Zu (k : Int) : ∀ l : List (Int × AV), QbU (.int .i64) (.int .i64 k) (imap l) = some (QaO k l)
 | [] => rfl
 | p :: l => by
  have h := Qmn k p.1
  have e : imap (p :: l) = (ikey p.1, p.2) :: imap l := rfl
  rw [e]
  simp only [QbU, QaO]
  rw [show Instr.sameNow (.int .i64) (.int .i64 k) (ikey p.1) = some (k == p.1) from rfl]
  by_cases hk : k = p.1
  ·rw [if_pos hk, show (k == p.1) = true by simpa using hk]
  ·rw [if_neg hk, show (k == p.1) = false by simpa using hk]
   exact Zu k l
theorem QcI (k : Int) (v : AV) : ∀ l : List (Int × AV), QaO k l = none → updA (.int .i64) (.int .i64 k) v (imap l) = some (imap (l ++ [(k, v)]))
 | [], _ => rfl
 | p :: l, hn => by
  have e : imap (p :: l) = (ikey p.1, p.2) :: imap l := rfl
  rw [e]
  simp only [QaO] at hn
  split at hn
  ·cases hn
  ·rename_i hk
   simp only [updA]
   rw [show Instr.sameNow (.int .i64) (.int .i64 k) (ikey p.1) = some (k == p.1) from rfl, show (k == p.1) = false by simpa using hk, QcI k v l hn]
   rfl
theorem QkT (P : Program) (s d : TypeId) {ts : TypeDesc} {kd : IntKind} (hs : P.underlying s = some ts) (hd : P.underlying d = some (.int kd)) (k : IntKind) (a : Int) : pv P (convert s d (.int k a)) = some (.int kd (kd.wrap a)) := by
 have hp : ∀ {α : Type} (x : α), pv P (pure x) = some x := fun _ => rfl
 simp only [convert, underlying]
 rw [Ya, Ya]
 simp only [program, pv, QpR, hs, hp]
 rw [Ya, Ya]
 simp only [program, pv, QpR, hd, hp]
 rfl
theorem QhS {P : Program} {N : Nat} {ops : Array Oper} {E : AV → AS → Prop} : ∀ (l1 l2 : List Oper) (K K' : AS → Prop) (s : AS), (∀ s, OpsW P N ops l2 K E s → K' s) → OpsW P N ops l2 K E = K' → OpsW P N ops l1 K' E s → OpsW P N ops (l1 ++ l2) K E s
 | [], l2, K, K', s, _, e, h => by subst e; exact h
 | o :: l1, l2, K, K', s, hK, e, h => by
  subst e
  have ih : OpsW P N ops (l1 ++ l2) K E = OpsW P N ops l1 (OpsW P N ops l2 K E) E := by
   clear h hK s o
   funext s
   apply propext
   induction l1 generalizing s with
   | nil => exact Iff.rfl
   | cons o l1 ih =>
    have ih' : OpsW P N ops (l1 ++ l2) K E = OpsW P N ops l1 (OpsW P N ops l2 K E) E := funext fun s => propext (ih s)
    show (match Qf ops s.tm o with | some true => OpW P N o s (OpsW P N ops (l1 ++ l2) K E) E | some false => OpsW P N ops (l1 ++ l2) K E (AS.put N s o.dst (.v undef)) | none => False) ↔ (match Qf ops s.tm o with | some true => OpW P N o s (OpsW P N ops l1 (OpsW P N ops l2 K E) E) E | some false => OpsW P N ops l1 (OpsW P N ops l2 K E) E (AS.put N s o.dst (.v undef)) | none => False)
    rw [ih']
  show (match Qf ops s.tm o with | some true => OpW P N o s (OpsW P N ops (l1 ++ l2) K E) E | some false => OpsW P N ops (l1 ++ l2) K E (AS.put N s o.dst (.v undef)) | none => False)
  rw [ih]
  exact h
theorem QE {P : Program} {N : Nat} {ops : Array Oper} {E : AV → AS → Prop} {l : List Oper} {K : AS → Prop} {s : AS} (k : Nat) (h : ∀ K' : AS → Prop, (∀ s, OpsW P N ops (l.drop k) K E s → K' s) → OpsW P N ops (l.take k) K' E s) : OpsW P N ops l K E s := by
 have := QhS (l.take k) (l.drop k) K _ s (fun s hs => hs) rfl (h _ fun s hs => hs)
 rwa [List.take_append_drop] at this
theorem DefOk.cut {c : Cx} {base : Bs} {m : Nat} {ds : List Deferred} (h : DefOk c base ds) : DefOk (c.cut m) base ds := by
 obtain ⟨Ds, e, hn, hall⟩ := h
 refine ⟨Ds, e, hn, fun D hD => ?_⟩
 obtain ⟨h1, h2, h3⟩ := hall D hD
 exact ⟨h1, h2, fun ⟨id, b, g1, g2, g3⟩ => h3 ⟨id, b, (Yg g1).2, g2, g3⟩⟩
theorem Yy {P : Program} {b : Frame} {a : Act} {k : List Item} {cs : List Frame} {w : World} {c : Code} :
  step P (lone (b.atR a (.code (.scope c) :: k)) cs w) = .next (lone (b.atR a (.code c :: .inScope c :: k)) cs w) :=
 step_lone_go (by simp [stepG, stepG.exec, Frame.atR])
theorem Qfk {P : Program} {b : Frame} {a : Act} {k : List Item} {cs : List Frame} {w : World} {c : Code} :
  step P (lone (b.atR a (.inScope c :: k)) cs w) = .next (lone (b.atR a k) cs w) :=
 step_lone_go (by simp [stepG, stepG.exec, Frame.atR])
def Qnb (Q : Exit → Act → World → Prop) : Exit → Act → World → Prop
 | .goto _, _, _ => False
 | e, a, w => Q e a w
theorem QjE {F : Fence} {n : Nat} {P : Program} {Q : Exit → Act → World → Prop} {a : Act} {w : World} {c : Code} (h : c.wpIn F n P (Qnb Q) a w) : (Code.scope c).wpIn F n P Q a w := by
 intro b k cs hro hb hr
 have h0 : (lone (b.atR a (.code (.scope c) :: k)) cs w).fenced P F := fenced_calm hb hr rfl
 obtain ⟨e, a₁, w₁, hq, harr⟩ := h b (.inScope c :: k) cs hro hb hr
 cases e with
 | normal => exact ⟨.normal, a₁, w₁, hq, .head h0 Yy (StepsIn.trans harr (.one (fenced_calm hb hr rfl) Qfk))⟩
 | exit id' =>
  have hx : exitTo id' (.inScope c :: k) = exitTo id' k := by simp [exitTo]
  exact ⟨.exit id', a₁, w₁, hq, fun k' hk => .head h0 Yy (harr.1 k' (by rw [hx]; exact hk)),
   fun hr' hk => let ⟨k₁, h1, h2⟩ := harr.2 hr' (by rw [hx]; exact hk); ⟨k₁, h1, .head h0 Yy h2⟩⟩
 | goto l => exact hq.elim
 | ret => exact ⟨_, a₁, w₁, hq, .of_steps (.one h0 Yy) harr⟩
 | panic ch => exact ⟨_, a₁, w₁, hq, .of_steps (.one h0 Yy) harr⟩
 | outgrown => exact ⟨_, a₁, w₁, hq, .of_steps (.one h0 Yy) harr⟩
theorem Q1 {P : Program} {N : Nat} {x : Code} {Q : AExit → AS → Prop} {s : AS} (h : Xz P N x Q s) : Xz P N (.scope x) Q s := by
 intro F n base c a hF hs hr R hR
 refine QjE (h F n base c a hF hs hr _ fun e s' c' a' e' hQ hev hst hsr hex => ?_)
 cases e with
 | normal => cases hex; exact hR _ s' c' a' _ hQ hev hst hsr rfl
 | exit i => cases hex; exact hR _ s' c' a' _ hQ hev hst hsr rfl
 | ret => cases hex; exact hR _ s' c' a' _ hQ hev hst hsr rfl
 | panic av => obtain ⟨x, rfl, hx⟩ := hex; exact hR _ s' c' a' _ hQ hev hst hsr ⟨x, rfl, hx⟩
inductive Kill (h : AH) (id : Nat) : AV → AV → Prop
 | keep (a : AV) : Kill h id a a
 | arr {lo len s : Nat} {ty : TypeId} {xs : List AV} (hg : h[id]? = some (.cells ty s xs)) (hl : lo + len ≤ xs.length) : Kill h id (.arr id lo len) (.sl s ((xs.drop lo).take len) none)
 | row {lo len cap s : Nat} {ty : TypeId} {xs : List AV} (hg : h[id]? = some (.cells ty s xs)) (hl : lo + len ≤ xs.length) : Kill h id (.row id lo len cap) (.sl s ((xs.drop lo).take len) none)
theorem Qcb {c : Cx} (hs : St c) {id B ty s : Nat} {xs : List AV} (hg : c.h[id]? = some (.cells ty s xs)) (hρ : c.ρ id = some B) :
  (∀ x ∈ xs, x.cells.length = s) ∧ ∃ f : Nat → Value, ∀ (j : Nat) a, (flat xs)[j]? = some a → ((c.kill id).cellP B (0 + j) (f j) ∧ (f j).oneCell' = true) ∧ Rel (c.kill id) a (f j) := by
 obtain ⟨B', cur, h1, h2, h3, h4⟩ := hs.blocks id _ hg
 rw [hρ] at h1; cases h1
 refine ⟨h3, fun j => cur.getD j undef, fun j a hj => ?_⟩
 obtain ⟨u, h5, h6, h7⟩ := h4 j a hj
 have e : cur.getD j undef = u := by rw [Array.getD_eq_getD_getElem?, h5]; rfl
 show ((c.kill id).cellP B (0 + j) (cur.getD j undef) ∧ (cur.getD j undef).oneCell' = true) ∧ Rel (c.kill id) a (cur.getD j undef)
 rw [e]
 refine ⟨⟨⟨by show c.w.cell? _ = _; rw [Nat.zero_add, Xn h2]; exact h5, ?_⟩, h6⟩, h7.ev hs (Ev.kill hg)⟩
 refine ⟨hs.lt hg rfl hρ, fun id' b' hb' hl' hρ' => ?_⟩
 rcases QcN hb' with ⟨rfl, rfl⟩ | ⟨hne, hb''⟩
 ·cases hl'
 ·exact absurd (hs.inj id' id b' _ B hb'' hg hl' rfl hρ' hρ) hne
theorem QaT {c : Cx} (hs : St c) {id B ty s lo len cap : Nat} {xs : List AV} (hg : c.h[id]? = some (.cells ty s xs)) (hρ : c.ρ id = some B) (hl : lo + len ≤ xs.length) (h2 : len ≤ cap) (h3 : cap ≤ maxLen) :
  Rel (c.kill id) (.sl s ((xs.drop lo).take len) none) (.slice (some ⟨B, lo * s, none⟩) len cap) := by
 obtain ⟨h4, f, h5⟩ := Qcb hs hg hρ
 have hlen : ((xs.drop lo).take len).length = len := by simp; omega
 have hdrop : ∀ y ∈ xs.drop lo, y.cells.length = s := fun y hy => h4 y (List.mem_of_mem_drop hy)
 have hget : ∀ (j : Nat) a, (flat ((xs.drop lo).take len))[j]? = some a → (flat xs)[lo * s + j]? = some a := by
  intro j a hj
  rw [X7 hdrop (by simp; omega)] at hj
  have hlt := QF hj
  rw [List.length_take] at hlt
  rw [List.getElem?_take_of_lt (by omega), Ys h4 (by omega), List.getElem?_drop] at hj
  exact hj
 have := Rel.sl (c := c.kill id) s ((xs.drop lo).take len) none B (lo * s) cap (fun j => f (lo * s + j)) (fun y hy => hdrop y (List.mem_of_mem_take hy)) (by omega) h3
  (fun j a hj => by have := (h5 _ a (hget j a hj)).1; rwa [Nat.zero_add] at this) (fun j a hj => (h5 _ a (hget j a hj)).2) (fun b hb => by cases hb)
 rwa [hlen] at this
theorem Kill.rel {c : Cx} (hs : St c) {id ty s : Nat} {xs : List AV} (hb : c.h[id]? = some (.cells ty s xs)) {a a' : AV} (h : Kill c.h id a a') {x : Value} (hr : Rel c a x) : Rel (c.kill id) a' x := by
 cases h with
 | keep => exact hr.ev hs (Ev.kill hb)
 | arr hg hl =>
  cases hr with
  | arr _ _ _ x hid ho h1 =>
   obtain ⟨B, cap, hρ, rfl, h2, h3, _⟩ := h1 _ _ _ hg
   exact QaT hs hg hρ hl h2 h3
 | row hg hl =>
  cases hr with
  | row _ _ _ _ x hid ho h1 =>
   obtain ⟨B, cur, hρ, rfl, h2, h3, _⟩ := h1 _ _ _ hg
   exact QaT hs hg hρ hl h2 h3
theorem Qjd {P : Program} {N : Nat} {x : Code} {Q : AExit → AS → Prop} {tm : Nat → AV} {h : AH} (id d : Nat) {ty s : Nat} {xs : List AV} (hb : h[id]? = some (.cells ty s xs)) {r : AV} (hk : Kill h id (tm d) r)
  (H : Xz P N x Q ⟨upd tm d r, h.set id .dead⟩) : Xz P N x Q ⟨tm, h⟩ := by
 intro F n base c a hF hst hr R hR
 have hh : c.h = h := hr.h
 subst hh
 have hev := Ev.kill hb
 have hst2 := hst.kill hb
 refine H F n base (c.kill id) a hF hst2 ⟨rfl, hr.size, hr.above, hr.defers.ev hev, RoundOk.ev hev hr.round, fun t => ?_⟩ R fun e' s' c' a' ex hq h1 h2 h3 h4 => hR e' s' c' a' ex hq (Ev.trans hst hev h1) h2 h3 h4
 show Rel (c.kill id) (if t = d then r else tm t) _
 split
 ·rename_i ht
  subst ht
  exact hk.rel hst hb (hr.tm t)
 ·exact (hr.tm t).ev hst hev
theorem QgS {P : Program} {N : Nat} {code : Code} {Q : AExit → AS → Prop} {tm : Nat → AV} {h : AH} (d s : Nat) (hd : tm d = .v (.slice none 0 0))
  (H : Xz P N code Q ⟨upd tm d (.sl s [] (some h.length)), h ++ [.dead]⟩) : Xz P N code Q ⟨tm, h⟩ := by
 intro F n base c a hF hst hr R hR
 have hh : c.h = h := hr.h
 subst hh
 have hg := Grows.refl c.w
 have ho : ∀ B, (none : Option Nat) = some B → c.w.heap.size ≤ B := fun B h => by cases h
 have hev := Ev.add hst hg .dead none ho
 have hst' : St (c.add c.w .dead none) := St.add hst hg _ _ ho trivial
 refine H F n base (c.add c.w .dead none) a hF hst' ⟨rfl, hr.size, hr.above, hr.defers.ev hev, RoundOk.ev hev hr.round, fun t => ?_⟩ R fun e' s' c' a' ex hq h1 h2 h3 h4 => hR e' s' c' a' ex hq (Ev.trans hst hev h1) h2 h3 h4
 simp only [upd]
 split
 ·rename_i ht
  subst ht
  have h1 := hr.tm t
  simp only [hd] at h1
  generalize hu : a.tmps.getD t undef = u at h1
  cases h1
  refine .slnil _ _ fun b hb => ?_
  cases hb
  exact ⟨by simp [Cx.add], fun e s' n hg => by simp [Cx.add] at hg⟩
 ·exact (hr.tm t).ev hst hev
theorem QjC {c : Cx} {x : Value} (s : Nat) (h : Rel c (.v (.slice none 0 0)) x) : Rel c (.sl s [] none) x := by
 cases h
 exact .slnil s none fun b hb => by cases hb
def AncX (ops : Array Oper) (x y i j : Nat) : Prop := Anc ops i j ∨ ((i = x ∨ Anc ops i x) ∧ (j = y ∨ Anc ops y j))
theorem AncX.good {ops : Array Oper} {x y : Nat} {S : Nat → Bool} (hd : Down ops S) (hxy : S y = true → S x = true) {i j : Nat} (h : AncX ops x y i j) (hj : S j = true) : S i = true := by
 rcases h with h | ⟨h1, h2⟩
 ·exact hd.anc h hj
 ·have hy : S y = true := by
   rcases h2 with rfl | h2
   ·exact hj
   ·exact hd.anc h2 hj
  rcases h1 with rfl | h1
  ·exact hxy hy
  ·exact hd.anc h1 (hxy hy)
structure FitX (ops : Array Oper) (x y : Nat) (tr : List Tr) : Prop where
 len : tr.length = ops.size
 pairs : tr.Pairwise (fun a b => clash ops a.o b.o a.c b.c = true → AncX ops x y a.i b.i)
 topo : topo ops [] (tr.map fun t => (t.i, t.c)) = true
 nodup : (tr.map (·.i)).Nodup
 all : ∀ i, i < ops.size → ∃ t ∈ tr, t.i = i
 kind : ∀ t ∈ tr, kindOk t.o t.c = true
theorem Runs.append {P : Program} {N : Nat} {ops : Array Oper} : ∀ {l m : List Tr} {tm : Nat → AV} {h : AH}, Runs P N ops l tm h → Runs P N ops m (tmS N (fun _ => true) l tm) (hS (fun _ => true) l h) → Runs P N ops (l ++ m) tm h
 | [], m, tm, h, _, H => H
 | t :: l, m, tm, h, H, H2 => by
  cases H with
  | cons t l tm h ho hk hs hl =>
   refine .cons t (l ++ m) tm h ho hk hs (Runs.append hl ?_)
   simpa only [tmS, hS, if_true, Qqw, decide_eq_true_eq] using H2
def behind (ops : Array Oper) (x y i : Nat) : Bool := i == x || i == y || ((masks ops.toList []).getD i 0).testBit x || ((masks ops.toList []).getD i 0).testBit y
end Go.Proofs.YtniljpjjnmkoaaaGreatDoor.Ab
namespace Go.Proofs.YtniljpjjnmkoaaaGreatDoor.Ab
theorem Xt {P : Program} {N c : Nat} {fv : AV} {args : List AV} {s : AS} {d : Option Tmp} {K : AS → Prop} {r : AV} {h' : AH} (H : FunW P fv args s.h fun o h2 => o = .ret r ∧ h2 = h') (hk : c = 3 → Keep s.h h') (k : K (AS.put N { s with h := h' } d r)) : QnE P N c fv args s d K := ⟨r, h', H, hk, k⟩
def vs {X : Type} (f : X → AV) (l : List X) : List AV := l.map f
section
variable {X : Type} (f : X → AV)
theorem QR (l : List X) : (vs f l).length = l.length := List.length_map _
theorem XR {l : List X} {k : Nat} (h : k < l.length) : (vs f l)[k]? = some (f l[k]) := by
 rw [vs, List.getElem?_map, List.getElem?_eq_getElem h]; rfl
theorem Qdr (l m : List X) : vs f (l ++ m) = vs f l ++ vs f m := List.map_append
theorem Qn5 (x : X) : vs f [x] = [f x] := rfl
theorem QhV (n : Nat) (hf : ∀ x, ∀ a ∈ (f x).cells, Below n a) (l : List X) : ∀ a ∈ flat (vs f l), Below n a := by
 intro a ha
 simp only [flat, vs, List.mem_flatMap, List.mem_map] at ha
 obtain ⟨x, ⟨b, _, rfl⟩, hx⟩ := ha
 exact hf b a hx
theorem QaC (n s : Nat) (hf : ∀ x, ∀ a ∈ (f x).cells, Below n a) (l : List X) : Below n (.sl s (vs f l) none) := .sl s _ none (QhV f n hf l) (fun b hb => by cases hb)
end
structure G where
 op : Int
 name : ByteArray
 args : List T
def G.atom (g : G) : AV := .agg [.v (.string g.name), .sl 4 (avs g.args) none]
def G.goal (g : G) : AV := .agg [.v (.int .i64 g.op), .v (.string g.name), .sl 4 (avs g.args) none]
theorem QT (g : G) : g.atom.cells = [.v (.string g.name), .sl 4 (avs g.args) none] := rfl
theorem Xa (g : G) : g.atom.isAgg = true := rfl
theorem Qlr (g : G) : AV.agg [.v (.string g.name), .sl 4 (avs g.args) none] = g.atom := rfl
theorem QiI (g : G) : g.goal.cells = [.v (.int .i64 g.op), .v (.string g.name), .sl 4 (avs g.args) none] := rfl
theorem ZH (n : Nat) (g : G) : ∀ a ∈ g.atom.cells, Below n a := by
 intro a ha
 rw [QT] at ha
 simp only [List.mem_cons, List.not_mem_nil, or_false] at ha
 rcases ha with rfl | rfl
 ·exact .v _
 ·exact X0 _ _
theorem Qie (n : Nat) (g : G) : ∀ a ∈ g.goal.cells, Below n a := by
 intro a ha
 rw [QiI] at ha
 simp only [List.mem_cons, List.not_mem_nil, or_false] at ha
 rcases ha with rfl | rfl | rfl
 ·exact .v _
 ·exact .v _
 ·exact X0 _ _
structure Rl where
 name : ByteArray
 keep : List G
 remove : List G
 guard : List G
 body : List G
 vars : Int
def Rl.av (r : Rl) : AV := .agg [.v (.string r.name), .sl 2 (vs G.atom r.keep) none, .sl 2 (vs G.atom r.remove) none, .sl 3 (vs G.goal r.guard) none, .sl 3 (vs G.goal r.body) none, .v (.int .i64 r.vars)]
theorem Rl.cells (r : Rl) : r.av.cells = [.v (.string r.name), .sl 2 (vs G.atom r.keep) none, .sl 2 (vs G.atom r.remove) none, .sl 3 (vs G.goal r.guard) none, .sl 3 (vs G.goal r.body) none, .v (.int .i64 r.vars)] := rfl
theorem Rl.isAgg (r : Rl) : r.av.isAgg = true := rfl
structure Ky where
 name : ByteArray
 arity : Int
 pos : List Int
def Ky.av (k : Ky) : AV := .agg [.v (.string k.name), .v (.int .i64 k.arity), .sl 1 (ints k.pos) none]
theorem Ky.cells (k : Ky) : k.av.cells = [.v (.string k.name), .v (.int .i64 k.arity), .sl 1 (ints k.pos) none] := rfl
theorem Ky.isAgg (k : Ky) : k.av.isAgg = true := rfl
theorem Qmm (n : Nat) (l : List Int) : Below n (.sl 1 (ints l) none) := .sl 1 _ none (Yh n l) (fun b hb => by cases hb)
theorem Ky.bel (n : Nat) (k : Ky) : ∀ a ∈ k.av.cells, Below n a := by
 intro a ha
 rw [Ky.cells] at ha
 simp only [List.mem_cons, List.not_mem_nil, or_false] at ha
 rcases ha with rfl | rfl | rfl
 ·exact .v _
 ·exact .v _
 ·exact Qmm _ _
theorem Ky.below (n : Nat) (k : Ky) : Below n k.av := .agg _ (Ky.bel n k)
structure It where
 id : Int
 atom : G
def It.av (x : It) : AV := .agg [.v (.int .i64 x.id), .v (.string x.atom.name), .sl 4 (avs x.atom.args) none]
theorem It.cells (x : It) : x.av.cells = [.v (.int .i64 x.id), .v (.string x.atom.name), .sl 4 (avs x.atom.args) none] := rfl
theorem It.isAgg (x : It) : x.av.isAgg = true := rfl
theorem Rl.bel (n : Nat) (r : Rl) : ∀ a ∈ r.av.cells, Below n a := by
 intro a ha
 rw [Rl.cells] at ha
 simp only [List.mem_cons, List.not_mem_nil, or_false] at ha
 rcases ha with rfl | rfl | rfl | rfl | rfl | rfl
 ·exact .v _
 ·exact QaC _ _ _ (ZH _) _
 ·exact QaC _ _ _ (ZH _) _
 ·exact QaC _ _ _ (Qie _) _
 ·exact QaC _ _ _ (Qie _) _
 ·exact .v _
structure Dc where
 name : ByteArray
 arity : Int
def Dc.av (d : Dc) : AV := .agg [.v (.string d.name), .v (.int .i64 d.arity)]
theorem Dc.cells (d : Dc) : d.av.cells = [.v (.string d.name), .v (.int .i64 d.arity)] := rfl
theorem Dc.isAgg (d : Dc) : d.av.isAgg = true := rfl
theorem Dc.bel (n : Nat) (d : Dc) : ∀ a ∈ d.av.cells, Below n a := by
 intro a ha
 rw [Dc.cells] at ha
 simp only [List.mem_cons, List.not_mem_nil, or_false] at ha
 rcases ha with rfl | rfl <;> exact .v _
structure Pg where
 decls : List Dc
 rules : List Rl
def Pg.av (p : Pg) : AV := .agg [.sl 2 (vs Dc.av p.decls) none, .sl 6 (vs Rl.av p.rules) none]
theorem Pg.cells (p : Pg) : p.av.cells = [.sl 2 (vs Dc.av p.decls) none, .sl 6 (vs Rl.av p.rules) none] := rfl
theorem Pg.isAgg (p : Pg) : p.av.isAgg = true := rfl
end Go.Proofs.YtniljpjjnmkoaaaGreatDoor.Ab
namespace Go.Proofs.YtniljpjjnmkoaaaGreatDoor.Ab
mutual
def T.map (g : Int → Int) : T → T
 | .mk k i n l => if k = 1 then .mk k (g i) n l else if k = 2 then .mk k i n (maps g l) else .mk k i n l
def maps (g : Int → Int) : List T → List T
 | [] => []
 | t :: l => t.map g :: maps g l
end
mutual
theorem T.Qpy (f : Int → Int) : ∀ t : T, (t.map f).vars = t.vars.map f
 | .mk k i n l => by
  simp only [T.map, T.vars]
  by_cases h1 : k = 1
  ·simp [h1, T.vars]
  ·by_cases h2 : k = 2
   ·simp only [if_neg h1, if_pos h2, T.vars]; exact QaL f l
   ·simp [h1, h2, T.vars]
theorem QaL (f : Int → Int) : ∀ l : List T, varss (maps f l) = (varss l).map f
 | [] => rfl
 | t :: l => by rw [maps, varss, varss, T.Qpy f t, QaL f l, List.map_append]
end
mutual
theorem T.map_map (f g : Int → Int) : ∀ t : T, (t.map f).map g = t.map fun n => g (f n)
 | .mk k i n l => by
  simp only [T.map]
  by_cases h1 : k = 1
  ·simp [h1, T.map]
  ·by_cases h2 : k = 2
   ·simp only [if_neg h1, if_pos h2, T.map]; rw [Qbw f g l]
   ·simp [h1, h2, T.map]
theorem Qbw (f g : Int → Int) : ∀ l : List T, maps g (maps f l) = maps (fun n => g (f n)) l
 | [] => rfl
 | t :: l => by rw [maps, maps, maps, T.map_map f g t, Qbw f g l]
end
mutual
theorem T.map_congr {f g : Int → Int} : ∀ (t : T), (∀ v ∈ t.vars, f v = g v) → t.map f = t.map g
 | .mk k i n l, h => by
  simp only [T.map, T.vars] at h ⊢
  by_cases h1 : k = 1
  ·simp only [if_pos h1] at h ⊢; rw [h i (by simp)]
  ·by_cases h2 : k = 2
   ·simp only [if_neg h1, if_pos h2] at h ⊢; rw [QaA l h]
   ·simp [h1, h2]
theorem QaA {f g : Int → Int} : ∀ (l : List T), (∀ v ∈ varss l, f v = g v) → maps f l = maps g l
 | [], _ => rfl
 | t :: l, h => by
  rw [maps, maps, T.map_congr t fun v hv => h v (by rw [varss]; exact List.mem_append.2 (.inl hv)), QaA l fun v hv => h v (by rw [varss]; exact List.mem_append.2 (.inr hv))]
end
structure Ct where
 vals : List T
 store : List G
def G.map (f : Int → Int) (g : G) : G := ⟨g.op, g.name, maps f g.args⟩
def Qe3 (l : List G) : List Int := l.flatMap fun g => varss g.args
def Ct.vars (c : Ct) : List Int := varss c.vals ++ Qe3 c.store
def cmpG (a b : G) : Int := lexI (lexI (cmpS a.name b.name) (cmpI a.args.length b.args.length)) (cmpL a.args b.args)
def XF : List G → List G → Int
 | a :: l, b :: m => lexI (cmpG a b) (XF l m)
 | [], [] => 0
 | [], _ :: _ => -1
 | _ :: _, [] => 1
def cmpA (a b : Ct) : Int := lexI (cmpL a.vals b.vals) (XF a.store b.store)
theorem ordG : Ordered cmpG := ⟨fun a b => by rw [cmpG, cmpG, Qdz a.name, YL (a.args.length : Int), Qbr a.args, Yj, Yj],
 fun a b d => YN (YN (Qfc _ _ _) fun _ _ => ZI _ _ _) fun _ _ => QcL _ _ _⟩
theorem QeD : ∀ l m, XF m l = -XF l m
 | [], [] => rfl
 | [], _ :: _ => rfl
 | _ :: _, [] => rfl
 | a :: l, b :: m => by rw [XF, XF, QeD l m, ordG.anti a b, Yj]
theorem Qg6 : ∀ l m n, Tri (XF l m) (XF m n) (XF l n)
 | [], [], [] => QcJ
 | [], [], _ :: _ => fun _ _ => ⟨by simp only [XF]; decide, by simp [XF]⟩
 | [], _ :: _, [] => fun _ h => absurd h (by simp only [XF]; decide)
 | [], _ :: _, _ :: _ => fun _ _ => ⟨by simp only [XF]; decide, by simp [XF]⟩
 | _ :: _, [], _ => fun h => absurd h (by simp only [XF]; decide)
 | _ :: _, _ :: _, [] => fun _ h => absurd h (by simp only [XF]; decide)
 | a :: l, b :: m, d :: n => YN (ordG.tri _ _ _) fun _ _ => Qg6 l m n
theorem ordA : Ordered cmpA := ⟨fun a b => by rw [cmpA, cmpA, Qbr a.vals, QeD a.store, Yj], fun a b d => YN (QcL _ _ _) fun _ _ => Qg6 _ _ _⟩
def Ct.ans (f : Int → Int) (c : Ct) : Ct := ⟨maps f c.vals, YA cmpG (c.store.map (G.map f))⟩
def toF (n : Int) (p : List Int) (v : Int) : Int := if v ∈ p then n + (plc p v : Nat) else v
theorem QjJ {h : Int → Int} {v : Int} : ∀ {p : List Int}, (∀ w ∈ p, h w = h v → w = v) → plc (p.map h) (h v) = plc p v
 | [], _ => rfl
 | a :: p, hi => by
  simp only [Qp1, plc]
  by_cases e : a = v
  ·rw [if_pos e, if_pos (by rw [e])]
  ·rw [if_neg e, if_neg (fun q => e (hi a (by simp) q)), QjJ fun w hw => hi w (by simp [hw])]
theorem QcV {l : List G} {g : G} (hg : g ∈ l) {v : Int} (hv : v ∈ varss g.args) : v ∈ Qe3 l := List.mem_flatMap.2 ⟨g, hg, hv⟩
theorem G.map_congr {f g : Int → Int} {x : G} (h : ∀ v ∈ varss x.args, f v = g v) : x.map f = x.map g := by
 simp only [G.map, QaA x.args h]
theorem G.map_map (f g : Int → Int) (x : G) : (x.map f).map g = x.map fun n => g (f n) := by simp only [G.map, Qbw]
theorem Qdc {n : Int} {c c' : Ct} {h : Int → Int} {L p : List Int} (hv : c'.vals = maps h c.vals) (hs : c'.store.Perm (c.store.map (G.map h)))
  (hi : ∀ v ∈ c.vars, ∀ w ∈ c.vars, h v = h w → v = w) (hf : ∀ v ∈ c.vars, v < n → h v = v) (hb : ∀ v ∈ c.vars, n ≤ v → n ≤ h v)
  (hL : ∀ v, v ∈ L ↔ v ∈ c.vars ∧ n ≤ v) (hp : p.Perm L) (he : ∀ a ∈ c.store.map (G.map (toF n p)), ∀ b ∈ c.store.map (G.map (toF n p)), cmpG a b = 0 → a = b) :
  c.ans (toF n p) = c'.ans (toF n (p.map h)) := by
 have hpv : ∀ v, v ∈ p ↔ v ∈ c.vars ∧ n ≤ v := fun v => hp.mem_iff.trans (hL v)
 have key : ∀ v ∈ c.vars, toF n p v = toF n (p.map h) (h v) := by
  intro v hvv
  by_cases hm : v ∈ p
  ·rw [toF, toF, if_pos hm, if_pos (List.mem_map.2 ⟨v, hm, rfl⟩), QjJ fun w hw => hi w ((hpv w).1 hw).1 v hvv]
  ·have hlt : v < n := by
    rcases Int.lt_or_le v n with q | q
    ·exact q
    ·exact absurd ((hpv v).2 ⟨hvv, q⟩) hm
   have hm' : ¬ h v ∈ p.map h := by
    intro q
    obtain ⟨w, hw, e⟩ := List.mem_map.1 q
    have := hi w ((hpv w).1 hw).1 v hvv e
    exact hm (this ▸ hw)
   rw [toF, toF, if_neg hm, if_neg hm', hf v hvv hlt]
 have e1 : maps (toF n p) c.vals = maps (toF n (p.map h)) c'.vals := by
  rw [hv, Qbw]
  exact QaA c.vals fun v q => key v (List.mem_append_left _ q)
 have e2 : c.store.map (G.map (toF n p)) = (c.store.map (G.map h)).map (G.map (toF n (p.map h))) := by
  rw [List.map_map]
  refine List.map_congr_left fun g hg => ?_
  show g.map _ = (g.map h).map _
  rw [G.map_map]
  exact G.map_congr fun v q => key v (List.mem_append_right _ (QcV hg q))
 simp only [Ct.ans, e1]
 rw [Qjc ordG he (e2 ▸ (hs.symm.map _))]
theorem QjA {h : Int → Int} {L L' q : List Int} (hLL : (L.map h).Perm L') (hq : q.Perm L') : ∃ p : List Int, p.Perm L ∧ q = p.map h := by
 have hq' := hq.trans hLL.symm
 obtain ⟨p, h1, h2⟩ : ∃ p : List Int, p.Perm L ∧ p.map h = q := by
  clear hLL hq
  induction q generalizing L with
  | nil => 
   have := hq'.symm.eq_nil
   exact ⟨[], by rw [List.map_eq_nil_iff.1 this], rfl⟩
  | cons a q ih =>
   have ha : a ∈ L.map h := hq'.mem_iff.1 (by simp)
   obtain ⟨x, hx, rfl⟩ := List.mem_map.1 ha
   have hx' := List.perm_cons_erase hx
   have h3 : (h x :: q).Perm (h x :: (L.erase x).map h) := hq'.trans (hx'.map h)
   obtain ⟨p, h1, h2⟩ := ih ((List.perm_cons _).1 h3)
   exact ⟨x :: p, (h1.cons x).trans hx'.symm, by rw [List.map_cons, h2]⟩
 exact ⟨p, h1, h2.symm⟩
set_option maxRecDepth 4000
open Go.Proofs
structure An where
 failed : Bool
 vals : List T
 store : List G
def An.ct (a : An) : Ct := ⟨a.vals, a.store⟩
def An.av (a : An) : AV := .agg [.v (.bool a.failed), .sl 4 (avs a.vals) none, .sl 2 (vs G.atom a.store) none]
theorem An.cells (a : An) : a.av.cells = [.v (.bool a.failed), .sl 4 (avs a.vals) none, .sl 2 (vs G.atom a.store) none] := rfl
theorem An.isAgg (a : An) : a.av.isAgg = true := rfl
def ZZ (a b : An) : Int := if (a.failed && !b.failed) = true then 1 else if (b.failed && !a.failed) = true then -1 else cmpA a.ct b.ct
theorem ZV (a b : G) (ha : ndsL a.args ≤ 1000000) : Pure Tryz.prog 52 [a.atom, b.atom] (.i (cmpG a b)) := by
 intro h
 have hl := QW a.args
 have c1 := Qbu a.name b.name
 have c2 := compareInt a.args.length b.args.length
 have c3 := QiG [cmpS a.name b.name, cmpI a.args.length b.args.length] (by simp)
 have e : orL [cmpS a.name b.name, cmpI a.args.length b.args.length] = lexI (cmpS a.name b.name) (cmpI a.args.length b.args.length) := by
  simp only [orL, lexI]
  split
  ·rfl
  ·split
   ·rfl
   ·rename_i h; simp only [bne_iff_ne, ne_eq, Classical.not_not] at h; exact h.symm
 rw [e] at c3
 change Pure _ _ [.sl 1 [.i (cmpS a.name b.name), .i (cmpI a.args.length b.args.length)] none] _ at c3
 cases hz : (lexI (cmpS a.name b.name) (cmpI a.args.length b.args.length) != 0) with
 | true =>
  have e2 : cmpG a b = lexI (cmpS a.name b.name) (cmpI a.args.length b.args.length) := by rw [cmpG, lexI, if_pos hz]
  refine Qh Tryz.func52 rfl Tryz.call52 Tryz.ntmps52 (congrArg Array.toList Tryz.results52) (by simp) ?_
  repeat (first | ((first | (with_reducible (first | refine Qa fun K E hK hE => ?_ | refine Qz c1 ?_ | refine Qz c2 ?_ | refine Qz c3 ?_)) | (refine Qu (id := 1) [(0, 0), (1, 0), (2, 0), (3, 0), (4, 1), (5, 0), (6, 0), (7, 0), (8, 0), (9, 0), (10, 0), (11, 1), (12, 0), (13, 1), (14, 0)] mixed (by kernel_rfl) fun K hK => ?_)); simp -implicitDefEqProofs only [Qe, Qf, OpW, aop, undef, AS.ev, Qv, AV.QoY, ↓reduceIte, Qm, QA, QB, aBin, QM, aLen, goInt, zi3, ti9, ti29, un29, YQ, YK, ei49, QT, hz, seval]) | (with_reducible (first | refine Qd fun K hK => ?_ | refine Qj ?_ | refine Qq ?_)) | ((with_reducible refine hK _ ?_); clear hK) | (refine Qg rfl ?_; simp only [↓reduceIte]))
  simp only [QD, Ql, Qr, upd, ↓reduceIte, QpS, QpW]; first | refine Qc (htake _ _) (.keep (.v _)) ⟨by rw [e2], rfl⟩ | refine Qc List.take_length (.keep (.v _)) ⟨by rw [e2], rfl⟩
 | false =>
  have hz' : lexI (cmpS a.name b.name) (cmpI a.args.length b.args.length) = 0 := by simpa using hz
  have e2 : cmpG a b = cmpL a.args b.args := by rw [cmpG, hz', XZ]
  have hll : a.args.length = b.args.length := by
   have := (Zj.1 hz').2
   unfold cmpI at this
   split at this
   ·cases this
   ·split at this
    ·cases this
    ·omega
  have c4 := QgK 1000000 (ZW 1000000 (Nat.le_refl _)) a.args b.args ha hll (by omega)
  refine Qh Tryz.func52 rfl Tryz.call52 Tryz.ntmps52 (congrArg Array.toList Tryz.results52) (by simp) ?_
  repeat (first | ((first | (with_reducible (first | refine Qa fun K E hK hE => ?_ | refine Qz c1 ?_ | refine Qz c2 ?_ | refine Qz c3 ?_ | refine Qp c4 ?_)) | (refine Qu (id := 1) [(0, 0), (1, 0), (2, 0), (3, 0), (4, 1), (5, 0), (6, 0), (7, 0), (8, 0), (9, 0), (10, 0), (11, 1), (12, 0), (13, 1), (14, 0)] mixed (by kernel_rfl) fun K hK => ?_)); simp -implicitDefEqProofs only [Qe, Qf, OpW, QK, aop, undef, AS.ev, Qv, AV.QoY, ↓reduceIte, Qm, QA, QB, aBin, QM, aLen, goInt, zi3, ti9, ti29, un29, YQ, YK, ei49, QT, hz, seval]) | (with_reducible (first | refine Qd fun K hK => ?_ | refine Qj ?_ | refine Qn ?_ | refine Qb ?_)) | ((with_reducible refine hK _ ?_); clear hK) | (refine Qg rfl ?_; simp only [↓reduceIte, QpQ]))
  simp only [QD, Ql, Qr, upd, ↓reduceIte, QpS, QpW]; first | refine Qc (htake _ _) (.keep (.v _)) ⟨by rw [e2], rfl⟩ | refine Qc List.take_length (.keep (.v _)) ⟨by rw [e2], rfl⟩
theorem Y3 (a b : G) (ha : ndsL a.args ≤ 1000000) : Pure Tryz.prog 55 [a.atom, b.atom] (.i (cmpG a b)) := by
 intro h
 have hl := QW a.args
 have c1 := QiA a.name b.name
 have c2 := QbJ a.args.length b.args.length
 have c3 := QeG 1000000 (Yr 1000000 (Nat.le_refl _)) a.args b.args ha (by omega)
 by_cases h1 : cmpS a.name b.name = 0
 ·have b1 : (cmpS a.name b.name == 0) = true := by simpa using h1
  by_cases h2 : cmpI a.args.length b.args.length = 0
  ·have b2 : (cmpI a.args.length b.args.length == 0) = true := by simpa using h2
   have e : cmpG a b = cmpL a.args b.args := by rw [cmpG, h1, h2]; rfl
   refine Qh Tryz.func55 rfl Tryz.call55 Tryz.ntmps55 (congrArg Array.toList Tryz.results55) (by simp) ?_
   repeat (first | ((first | (with_reducible (first | refine Qa fun K E hK hE => ?_ | refine Qk fun K E hK hE => ?_ | refine Qp c1 ?_ | refine Qp c2 ?_ | refine Qp c3 ?_))); simp -implicitDefEqProofs only [Qe, Qf, OpW, QK, aop, undef, AS.ev, Qv, AV.QoY, ↓reduceIte, Qm, QA, QB, aBin, aLen, goInt, ti9, ti29, un29, YQ, YK, QT, b1, b2, seval]) | (with_reducible (first | refine Qd fun K hK => ?_ | refine Qj ?_ | refine Qb ?_)) | ((with_reducible refine hK _ ?_); clear hK) | (refine Qg rfl ?_; simp only [↓reduceIte]))
   simp only [QD, Ql, Qr, upd, ↓reduceIte, QpS, QpW]; first | refine Qc (htake _ _) (.keep (.v _)) ⟨by rw [e], rfl⟩ | refine Qc List.take_length (.keep (.v _)) ⟨by rw [e], rfl⟩
  ·have b2 : (cmpI a.args.length b.args.length == 0) = false := by simpa using h2
   have e : cmpG a b = cmpI a.args.length b.args.length := by rw [cmpG, h1, XZ, Yx h2]
   refine Qh Tryz.func55 rfl Tryz.call55 Tryz.ntmps55 (congrArg Array.toList Tryz.results55) (by simp) ?_
   repeat (first | ((first | (with_reducible (first | refine Qa fun K E hK hE => ?_ | refine Qk fun K E hK hE => ?_ | refine Qp c1 ?_ | refine Qp c2 ?_))); simp -implicitDefEqProofs only [Qe, Qf, OpW, QK, aop, undef, AS.ev, Qv, AV.QoY, ↓reduceIte, Qm, QA, QB, aBin, aLen, goInt, ti9, ti29, un29, YQ, YK, QT, b1, b2, seval]) | (with_reducible (first | refine Qd fun K hK => ?_ | refine Qj ?_ | refine Qn ?_ | refine Qb ?_)) | ((with_reducible refine hK _ ?_); clear hK) | (refine Qg rfl ?_; simp only [↓reduceIte, QpQ]))
   simp only [QD, Ql, Qr, upd, ↓reduceIte, QpS, QpW]; first | refine Qc (htake _ _) (.keep (.v _)) ⟨by rw [e], rfl⟩ | refine Qc List.take_length (.keep (.v _)) ⟨by rw [e], rfl⟩
 ·have b1 : (cmpS a.name b.name == 0) = false := by simpa using h1
  have e : cmpG a b = cmpS a.name b.name := by rw [cmpG, Yx h1, Yx h1]
  refine Qh Tryz.func55 rfl Tryz.call55 Tryz.ntmps55 (congrArg Array.toList Tryz.results55) (by simp) ?_
  repeat (first | ((first | (with_reducible (first | refine Qa fun K E hK hE => ?_ | refine Qp c1 ?_))); simp -implicitDefEqProofs only [Qe, Qf, OpW, QK, aop, undef, AS.ev, Qv, AV.QoY, ↓reduceIte, Qm, QA, QB, aBin, ti9, YQ, QT, b1, seval]) | (with_reducible (first | refine Qd fun K hK => ?_ | refine Qj ?_ | refine Qn ?_ | refine Qb ?_)) | ((with_reducible refine hK _ ?_); clear hK) | (refine Qg rfl ?_; simp only [↓reduceIte, QpQ]))
  simp only [QD, Ql, Qr, upd, ↓reduceIte, QpS, QpW]; first | refine Qc (htake _ _) (.keep (.v _)) ⟨by rw [e], rfl⟩ | refine Qc List.take_length (.keep (.v _)) ⟨by rw [e], rfl⟩
theorem Qhd (l m : List T) (hn : ndsL l ≤ 1000000) : Pure Tryz.prog 49 [.sl 4 (avs l) none, .sl 4 (avs m) none, .fn (.func 50) [] []] (.i (cmpL l m)) := by
 intro h
 have hl := QW l
 refine Qh Tryz.func49 rfl Tryz.call49 Tryz.ntmps49 (congrArg Array.toList Tryz.results49) (by simp) ?_
 repeat (first | (((with_reducible refine Qa fun K E hK hE => ?_)); simp -implicitDefEqProofs only [Qe, Qf, OpW, aop, undef, AS.ev, Qv, ↓reduceIte, aLen, goInt, un29, seval]) | (with_reducible (first | refine Qd fun K hK => ?_ | refine Qi ?_)) | ((with_reducible refine hK _ ?_); clear hK))
 obtain ⟨I, hI⟩ : ∃ I : Nat → AS → Prop, I = fun m' s => ∃ (k : Nat) (L : AH), m' = l.length - k ∧ k ≤ l.length ∧ k ≤ m.length ∧ s.tm 0 = .sl 4 (avs l) none ∧ s.tm 11 = .sl 4 (avs l) none ∧ s.tm 1 = .sl 4 (avs m) none ∧ s.tm 2 = .fn (.func 50) [] [] ∧ s.tm 12 = .i l.length ∧ s.tm 13 = .i k ∧ s.h = h ++ L ∧ cmpL l m = cmpL (l.drop k) (m.drop k) := ⟨_, rfl⟩; refine QI I ?_ (m := l.length) ?_
 ·intro m' s hs; rw [hI] at hs; obtain ⟨tm, hp⟩ := s; dsimp only at hs; obtain ⟨k, L, rfl, hk, hk2, h0, h11, h1, h2, h12, h13, rfl, hor⟩ := hs
  by_cases hlt : k < l.length
  ·by_cases hlt2 : k < m.length
   ·have hd := QbD hlt hlt2
    have hc := ZW 1000000 (Nat.le_refl _) l[k] m[k] (Nat.le_trans (XM hlt) hn)
    have hge : ¬ m.length ≤ k := by omega
    cases ha : (cmpT l[k] m[k] != 0) with
    | true =>
     repeat (first | ((first | (with_reducible (first | refine Qa fun K E hK hE => ?_ | refine Qp hc ?_))); simp -implicitDefEqProofs only [Qe, Qf, OpW, QK, aop, undef, AS.ev, AV.QoY, ↓reduceIte, QA, QB, QO, QH, Qt, aBin, aLen, goInt, ei29, un29, ti41, zi41, hlt, hlt2, hge, h11, h1, h2, h12, h13, ha, Q3 hlt, Q3 hlt2, seval]) | (with_reducible (first | refine Qd fun K hK => ?_ | refine Qi ?_ | refine Qj ?_ | refine Qn ?_ | refine Qb ?_ | refine Qq ?_ | refine Qs ?_)) | ((with_reducible refine hK _ ?_); clear hK) | (refine Qg rfl ?_; simp only [↓reduceIte, QpQ]))
     simp only [QD, Ql, Qr, upd, ↓reduceIte, QpS, QpW]; first | refine Qc (htake _ _) (.keep (.v _)) ⟨by rw [hor, hd, if_pos ha], rfl⟩ | refine Qc List.take_length (.keep (.v _)) ⟨by rw [hor, hd, if_pos ha], rfl⟩
    | false =>
     repeat (first | ((first | (with_reducible (first | refine Qa fun K E hK hE => ?_ | refine Qk fun K E hK hE => ?_ | refine Qp hc ?_))); simp -implicitDefEqProofs only [Qe, Qf, OpW, QK, aop, undef, AS.ev, AV.QoY, ↓reduceIte, QA, QB, QO, QH, Qt, aBin, aLen, goInt, ei29, un29, ti41, zi41, hlt, hlt2, hge, h11, h1, h2, h12, h13, ha, Q3 hlt, Q3 hlt2, seval]) | (with_reducible (first | refine Qd fun K hK => ?_ | refine Qi ?_ | refine Qn ?_ | refine Qb ?_ | refine Qo ?_)) | ((with_reducible refine hK _ ?_); clear hK) | (refine Qg rfl ?_; simp only [↓reduceIte, QpQ]))
     refine QV.mk (m' := l.length - (k + 1)) (by omega) ?_
     rw [hI]
     refine ⟨k + 1, L ++ [.cells 41 4 [l[k].av], .cells 41 4 [m[k].av]], rfl, hlt, hlt2, h0, h11, h1, h2, h12, ?_, by simp, ?_⟩
     ·simp only [upd, ↓reduceIte]
      rw [QP (by omega)]
     ·rw [hor, hd, ha]; rfl
   ·have hkm : k = m.length := by omega
    have hge : m.length ≤ k := by omega
    repeat (first | (((with_reducible refine Qa fun K E hK hE => ?_)); simp -implicitDefEqProofs only [Qe, Qf, OpW, aop, undef, AS.ev, AV.QoY, ↓reduceIte, QA, QB, QO, QH, Qt, aBin, aLen, goInt, ei29, un29, ti41, zi41, hlt, hge, h11, h1, h12, h13, Q3 hlt, seval]) | (with_reducible (first | refine Qd fun K hK => ?_ | refine Qi ?_ | refine Qj ?_ | refine Qn ?_ | refine Qb ?_ | refine Qq ?_ | refine Qs ?_)) | ((with_reducible refine hK _ ?_); clear hK) | (refine Qg rfl ?_; simp only [↓reduceIte]))
    simp only [QD, Ql, Qr, upd, ↓reduceIte, QpS, QpW]; first | refine Qc (htake _ _) (.keep (.v _)) ⟨?_, rfl⟩ | refine Qc List.take_length (.keep (.v _)) ⟨?_, rfl⟩
    rw [hor, hkm, List.drop_length, List.drop_eq_getElem_cons (by omega)]; rfl
  ·have hkl : k = l.length := by omega
   by_cases hm : l.length < m.length
   ·repeat (first | (((with_reducible refine Qa fun K E hK hE => ?_)); simp -implicitDefEqProofs only [Qe, Qf, OpW, aop, AS.ev, ↓reduceIte, aBin, aLen, goInt, un29, hlt, h0, h1, h12, h13, hm, seval]) | (with_reducible (first | refine Qd fun K hK => ?_ | refine Qj ?_ | refine QC ?_ | refine Qb ?_ | refine Qq ?_ | refine Qw ?_ | refine Qy ?_)) | ((with_reducible refine hK _ ?_); clear hK) | (clear hK; (with_reducible refine hK _ ?_); clear hK) | (refine Qg rfl ?_; simp only [↓reduceIte, QpQ]))
    simp only [QD, Ql, Qr, upd, ↓reduceIte, QpS, QpW]; first | refine Qc (htake _ _) (.keep (.v _)) ⟨?_, rfl⟩ | refine Qc List.take_length (.keep (.v _)) ⟨?_, rfl⟩
    rw [hor, hkl, List.drop_length, List.drop_eq_getElem_cons hm]; rfl
   ·have hlm : l.length = m.length := by omega
    repeat (first | (((with_reducible refine Qa fun K E hK hE => ?_)); simp -implicitDefEqProofs only [Qe, Qf, OpW, aop, AS.ev, ↓reduceIte, aBin, aLen, goInt, un29, hlt, h0, h1, h12, h13, hm, seval]) | (with_reducible (first | refine Qd fun K hK => ?_ | refine Qj ?_ | refine Qn ?_ | refine QC ?_ | refine Qb ?_ | refine Qw ?_ | refine Qy ?_)) | ((with_reducible refine hK _ ?_); clear hK) | (clear hK; (with_reducible refine hK _ ?_); clear hK) | (refine Qg rfl ?_; simp only [↓reduceIte, QpQ]))
    simp only [QD, Ql, Qr, upd, ↓reduceIte, QpS, QpW]; first | refine Qc (htake _ _) (.keep (.v _)) ⟨?_, rfl⟩ | refine Qc List.take_length (.keep (.v _)) ⟨?_, rfl⟩
    rw [hor, hkl, List.drop_length, hlm, List.drop_length]; rfl
 ·rw [hI]
  exact ⟨0, [], by omega, Nat.zero_le _, Nat.zero_le _, rfl, rfl, rfl, rfl, by simp only [upd, ↓reduceIte, Nat.reduceEqDiff], rfl, by simp only [Qqf], rfl⟩
theorem Qb4 {l m : List G} {k : Nat} (h1 : k < l.length) (h2 : k < m.length) : XF (l.drop k) (m.drop k) = if (cmpG l[k] m[k] != 0) = true then cmpG l[k] m[k] else XF (l.drop (k + 1)) (m.drop (k + 1)) := by
 rw [List.drop_eq_getElem_cons h1, List.drop_eq_getElem_cons h2, XF]; rfl
def gsN : List G → Nat
 | [] => 0
 | g :: l => 1 + ndsL g.args + gsN l
theorem Qa3 : ∀ {l : List G} {k : Nat} (h : k < l.length), ndsL l[k].args ≤ gsN l
 | g :: l, 0, _ => by simp only [List.getElem_cons_zero, gsN]; omega
 | g :: l, k + 1, h => by
  have := Qa3 (l := l) (k := k) (by simpa using h)
  simp only [List.getElem_cons_succ, gsN]; omega
theorem Zr : ∀ l : List G, l.length ≤ gsN l
 | [] => by simp [gsN]
 | g :: l => by have := Zr l; simp only [gsN, QpZ]; omega
theorem Qgz (l m : List G) (hn : gsN l ≤ 1000000) : Pure Tryz.prog 51 [.sl 2 (vs G.atom l) none, .sl 2 (vs G.atom m) none, .fn (.func 52) [] []] (.i (XF l m)) := by
 intro h
 have hl := Zr l
 refine Qh Tryz.func51 rfl Tryz.call51 Tryz.ntmps51 (congrArg Array.toList Tryz.results51) (by simp) ?_
 repeat (first | (((with_reducible refine Qa fun K E hK hE => ?_)); simp -implicitDefEqProofs only [Qe, Qf, OpW, aop, undef, AS.ev, Qv, ↓reduceIte, aLen, goInt, un30, QR, seval]) | (with_reducible (first | refine Qd fun K hK => ?_ | refine Qi ?_)) | ((with_reducible refine hK _ ?_); clear hK))
 obtain ⟨I, hI⟩ : ∃ I : Nat → AS → Prop, I = fun m' s => ∃ (k : Nat) (L : AH), m' = l.length - k ∧ k ≤ l.length ∧ k ≤ m.length ∧ s.tm 0 = .sl 2 (vs G.atom l) none ∧ s.tm 11 = .sl 2 (vs G.atom l) none ∧ s.tm 1 = .sl 2 (vs G.atom m) none ∧ s.tm 2 = .fn (.func 52) [] [] ∧ s.tm 12 = .i l.length ∧ s.tm 13 = .i k ∧ s.h = h ++ L ∧ XF l m = XF (l.drop k) (m.drop k) := ⟨_, rfl⟩; refine QI I ?_ (m := l.length) ?_
 ·intro m' s hs; rw [hI] at hs; obtain ⟨tm, hp⟩ := s; dsimp only at hs; obtain ⟨k, L, rfl, hk, hk2, h0, h11, h1, h2, h12, h13, rfl, hor⟩ := hs
  by_cases hlt : k < l.length
  ·by_cases hlt2 : k < m.length
   ·have hd := Qb4 hlt hlt2
    have hc := ZV l[k] m[k] (Nat.le_trans (Qa3 hlt) hn)
    have hge : ¬ m.length ≤ k := by omega
    cases ha : (cmpG l[k] m[k] != 0) with
    | true =>
     repeat (first | ((first | (with_reducible (first | refine Qa fun K E hK hE => ?_ | refine Qp hc ?_))); simp -implicitDefEqProofs only [Qe, Qf, OpW, QK, aop, undef, AS.ev, AV.QoY, ↓reduceIte, QA, QB, QO, QH, Qt, aBin, aLen, goInt, ei30, un30, ti45, zi45, hlt, hlt2, hge, h11, h1, h2, h12, h13, ha, QR, XR G.atom hlt, XR G.atom hlt2, Xa, QT, seval]) | (with_reducible (first | refine Qd fun K hK => ?_ | refine Qi ?_ | refine Qj ?_ | refine Qn ?_ | refine Qb ?_ | refine Qq ?_ | refine Qs ?_)) | ((with_reducible refine hK _ ?_); clear hK) | (refine Qg rfl ?_; simp only [↓reduceIte, QpQ]))
     simp only [QD, Ql, Qr, upd, ↓reduceIte, QpS, QpW]; first | refine Qc (htake _ _) (.keep (.v _)) ⟨by rw [hor, hd, if_pos ha], rfl⟩ | refine Qc List.take_length (.keep (.v _)) ⟨by rw [hor, hd, if_pos ha], rfl⟩
    | false =>
     repeat (first | ((first | (with_reducible (first | refine Qa fun K E hK hE => ?_ | refine Qk fun K E hK hE => ?_ | refine Qp hc ?_))); simp -implicitDefEqProofs only [Qe, Qf, OpW, QK, aop, undef, AS.ev, AV.QoY, ↓reduceIte, QA, QB, QO, QH, Qt, aBin, aLen, goInt, ei30, un30, ti45, zi45, hlt, hlt2, hge, h11, h1, h2, h12, h13, ha, QR, XR G.atom hlt, XR G.atom hlt2, Xa, QT, seval]) | (with_reducible (first | refine Qd fun K hK => ?_ | refine Qi ?_ | refine Qn ?_ | refine Qb ?_ | refine Qo ?_)) | ((with_reducible refine hK _ ?_); clear hK) | (refine Qg rfl ?_; simp only [↓reduceIte, QpQ]))
     refine QV.mk (m' := l.length - (k + 1)) (by omega) ?_
     rw [hI]
     refine ⟨k + 1, L ++ [.cells 45 2 [l[k].atom], .cells 45 2 [m[k].atom]], rfl, hlt, hlt2, h0, h11, h1, h2, h12, ?_, by simp, ?_⟩
     ·simp only [upd, ↓reduceIte]
      rw [QP (by omega)]
     ·rw [hor, hd, ha]; rfl
   ·have hkm : k = m.length := by omega
    have hge : m.length ≤ k := by omega
    repeat (first | (((with_reducible refine Qa fun K E hK hE => ?_)); simp -implicitDefEqProofs only [Qe, Qf, OpW, aop, undef, AS.ev, AV.QoY, ↓reduceIte, QA, QB, QO, QH, Qt, aBin, aLen, goInt, ei30, un30, ti45, zi45, hlt, hge, h11, h1, h12, h13, QR, XR G.atom hlt, Xa, QT, seval]) | (with_reducible (first | refine Qd fun K hK => ?_ | refine Qi ?_ | refine Qj ?_ | refine Qn ?_ | refine Qb ?_ | refine Qq ?_ | refine Qs ?_)) | ((with_reducible refine hK _ ?_); clear hK) | (refine Qg rfl ?_; simp only [↓reduceIte]))
    simp only [QD, Ql, Qr, upd, ↓reduceIte, QpS, QpW]; first | refine Qc (htake _ _) (.keep (.v _)) ⟨?_, rfl⟩ | refine Qc List.take_length (.keep (.v _)) ⟨?_, rfl⟩
    rw [hor, hkm, List.drop_length, List.drop_eq_getElem_cons (by omega)]; rfl
  ·have hkl : k = l.length := by omega
   by_cases hm : l.length < m.length
   ·repeat (first | (((with_reducible refine Qa fun K E hK hE => ?_)); simp -implicitDefEqProofs only [Qe, Qf, OpW, aop, AS.ev, ↓reduceIte, aBin, aLen, goInt, un30, hlt, h0, h1, h12, h13, hm, QR, seval]) | (with_reducible (first | refine Qd fun K hK => ?_ | refine Qj ?_ | refine QC ?_ | refine Qb ?_ | refine Qq ?_ | refine Qw ?_ | refine Qy ?_)) | ((with_reducible refine hK _ ?_); clear hK) | (clear hK; (with_reducible refine hK _ ?_); clear hK) | (refine Qg rfl ?_; simp only [↓reduceIte, QpQ]))
    simp only [QD, Ql, Qr, upd, ↓reduceIte, QpS, QpW]; first | refine Qc (htake _ _) (.keep (.v _)) ⟨?_, rfl⟩ | refine Qc List.take_length (.keep (.v _)) ⟨?_, rfl⟩
    rw [hor, hkl, List.drop_length, List.drop_eq_getElem_cons hm]; rfl
   ·have hlm : l.length = m.length := by omega
    repeat (first | (((with_reducible refine Qa fun K E hK hE => ?_)); simp -implicitDefEqProofs only [Qe, Qf, OpW, aop, AS.ev, ↓reduceIte, aBin, aLen, goInt, un30, hlt, h0, h1, h12, h13, hm, QR, seval]) | (with_reducible (first | refine Qd fun K hK => ?_ | refine Qj ?_ | refine Qn ?_ | refine QC ?_ | refine Qb ?_ | refine Qw ?_ | refine Qy ?_)) | ((with_reducible refine hK _ ?_); clear hK) | (clear hK; (with_reducible refine hK _ ?_); clear hK) | (refine Qg rfl ?_; simp only [↓reduceIte, QpQ]))
    simp only [QD, Ql, Qr, upd, ↓reduceIte, QpS, QpW]; first | refine Qc (htake _ _) (.keep (.v _)) ⟨?_, rfl⟩ | refine Qc List.take_length (.keep (.v _)) ⟨?_, rfl⟩
    rw [hor, hkl, List.drop_length, hlm, List.drop_length]; rfl
 ·rw [hI]
  exact ⟨0, [], by omega, Nat.zero_le _, Nat.zero_le _, rfl, rfl, rfl, rfl, by simp only [upd, ↓reduceIte, Nat.reduceEqDiff], rfl, by simp only [Qqf], rfl⟩
theorem YZ (a b : An) (hv : ndsL a.vals ≤ 1000000) (hs : gsN a.store ≤ 1000000) : Pure Tryz.prog 21 [a.av, b.av] (.i (ZZ a b)) := by
 intro h
 have c1 := Qhd a.vals b.vals hv
 have c2 := Qgz a.store b.store hs
 obtain ⟨f, v, l⟩ := a
 obtain ⟨f', v', l'⟩ := b
 have ee : cmpA (An.ct ⟨f, v, l⟩) (An.ct ⟨f', v', l'⟩) = lexI (cmpL v v') (XF l l') := rfl
 cases hz : (cmpL v v' != 0) with
 | true =>
  have e : lexI (cmpL v v') (XF l l') = cmpL v v' := by rw [lexI, if_pos hz]
  cases f <;> cases f' <;>
  ·refine Qh Tryz.func21 rfl Tryz.call21 Tryz.ntmps21 (congrArg Array.toList Tryz.results21) (by simp) ?_
   repeat (first | ((first | (with_reducible (first | refine Qa fun K E hK hE => ?_ | refine Qp c1 ?_))); simp -implicitDefEqProofs only [Qe, Qf, OpW, QK, aop, undef, AS.ev, Qv, AV.QoY, ↓reduceIte, Qm, QA, QB, aBin, ti4, ti29, Qc1, QbF, An.cells, hz, seval]) | (with_reducible (first | refine Qd fun K hK => ?_ | refine Qi ?_ | refine Qj ?_ | refine Qn ?_ | refine Qb ?_ | refine Qq ?_ | refine Qo ?_ | refine Qs ?_)) | ((with_reducible refine hK _ ?_); clear hK) | (refine Qg rfl ?_; simp only [↓reduceIte, QpQ]))
   simp only [QD, Ql, Qr, upd, ↓reduceIte, QpS, QpW]; first | refine Qc (htake _ _) (.keep (.v _)) ⟨by simp [ZZ, ee, e], rfl⟩ | refine Qc List.take_length (.keep (.v _)) ⟨by simp [ZZ, ee, e], rfl⟩
 | false =>
  have e : lexI (cmpL v v') (XF l l') = XF l l' := by rw [lexI, hz]; rfl
  cases f <;> cases f' <;>
  ·refine Qh Tryz.func21 rfl Tryz.call21 Tryz.ntmps21 (congrArg Array.toList Tryz.results21) (by simp) ?_
   repeat (first | ((first | (with_reducible (first | refine Qa fun K E hK hE => ?_ | refine Qp c1 ?_ | refine Qp c2 ?_))); simp -implicitDefEqProofs only [Qe, Qf, OpW, QK, aop, undef, AS.ev, Qv, AV.QoY, ↓reduceIte, Qm, QA, QB, aBin, ti4, ti29, ti30, Qc1, QbF, Zg, An.cells, hz, seval]) | (with_reducible (first | refine Qd fun K hK => ?_ | refine Qi ?_ | refine Qj ?_ | refine Qn ?_ | refine Qb ?_ | refine Qq ?_ | refine Qo ?_ | refine Qs ?_)) | ((with_reducible refine hK _ ?_); clear hK) | (refine Qg rfl ?_; simp only [↓reduceIte, QpQ]))
   simp only [QD, Ql, Qr, upd, ↓reduceIte, QpS, QpW]; first | refine Qc (htake _ _) (.keep (.v _)) ⟨by simp [ZZ, ee, e], rfl⟩ | refine Qc List.take_length (.keep (.v _)) ⟨by simp [ZZ, ee, e], rfl⟩
def Wk (a b : AV) : Prop := ∀ c x, Rel c a x → Rel c b x
def WkL (l l' : List AV) : Prop := l.length = l'.length ∧ ∀ (j : Nat) a b, l[j]? = some a → l'[j]? = some b → Wk a b
theorem Wk.refl (a : AV) : Wk a a := fun _ _ h => h
theorem Wk.trans {a b d : AV} (h : Wk a b) (k : Wk b d) : Wk a d := fun c x r => k c x (h c x r)
theorem Wk.nilS (s : Nat) : Wk (.v (.slice none 0 0)) (.sl s [] none) := fun c x h => QjC s h
theorem WkL.nil : WkL [] [] := ⟨rfl, fun j a b h => by simp at h⟩
theorem WkL.refl (l : List AV) : WkL l l := ⟨rfl, fun j a b h k => by rw [h] at k; cases k; exact .refl a⟩
theorem WkL.cons {a b : AV} {l m : List AV} (h : Wk a b) (k : WkL l m) : WkL (a :: l) (b :: m) := by
 refine ⟨by simp [k.1], fun j x y hx hy => ?_⟩
 cases j with
 | zero => simp at hx hy; subst hx; subst hy; exact h
 | succ j => exact k.2 j x y (by simpa using hx) (by simpa using hy)
theorem WkL.append {l1 l2 m1 m2 : List AV} (h : WkL l1 m1) (k : WkL l2 m2) : WkL (l1 ++ l2) (m1 ++ m2) := by
 refine ⟨by simp [h.1, k.1], fun j x y hx hy => ?_⟩
 rcases Nat.lt_or_ge j l1.length with hj | hj
 ·rw [List.getElem?_append_left hj] at hx
  rw [List.getElem?_append_left (by rw [← h.1]; exact hj)] at hy
  exact h.2 j x y hx hy
 ·rw [List.getElem?_append_right hj] at hx
  rw [List.getElem?_append_right (by rw [← h.1]; exact hj), ← h.1] at hy
  exact k.2 _ x y hx hy
theorem Wk.agg {l m : List AV} (h : WkL l m) : Wk (.agg l) (.agg m) := by
 intro c x r
 cases r with
 | agg _ cs hl hr =>
  refine .agg m cs (hl.trans h.1) fun j a u ha hu => ?_
  obtain ⟨b, hb⟩ : ∃ b, l[j]? = some b := ⟨_, List.getElem?_eq_getElem (by rw [h.1]; exact QF ha)⟩
  exact h.2 j b a hb ha c u (hr j b u hb hu)
theorem Wk.sl {s : Nat} {xs ys : List AV} {own : Option Nat} (hl : xs.length = ys.length) (hs : ∀ y ∈ ys, y.cells.length = s) (h : WkL (flat xs) (flat ys)) : Wk (.sl s xs own) (.sl s ys none) := by
 intro c x r
 cases r with
 | slnil _ _ ht =>
  cases ys with
  | nil => exact .slnil s none fun b hb => by cases hb
  | cons y ys => simp at hl
 | slzero _ _ ba ht =>
  cases ys with
  | nil => exact .slzero s none ba fun b hb => by cases hb
  | cons y ys => simp at hl
 | sl _ _ _ B o cap f hs' hcap hmax hc hr ht =>
  rw [hl]
  rw [hl] at hcap
  have old : ∀ (j : Nat) a, (flat ys)[j]? = some a → ∃ b, (flat xs)[j]? = some b := fun j a ha => ⟨_, List.getElem?_eq_getElem (by rw [h.1]; exact QF ha)⟩
  refine .sl s ys none B o cap f hs hcap hmax (fun j a ha => ?_) (fun j a ha => ?_) fun b hb => by cases hb
  ·obtain ⟨b, hb⟩ := old j a ha
   exact hc j b hb
  ·obtain ⟨b, hb⟩ := old j a ha
   exact h.2 j b a hb ha c _ (hr j b hb)
theorem RelL.weak {c : Cx} {args args' : List AV} {vals : Array Value} (hw : WkL args args') (h : RelL c args vals) : RelL c args' vals := by
 refine ⟨h.1.trans hw.1, fun j a u ha hu => ?_⟩
 obtain ⟨b, hb⟩ : ∃ b, args[j]? = some b := ⟨_, List.getElem?_eq_getElem (by rw [hw.1]; exact QF ha)⟩
 exact hw.2 j b a hb ha c u (h.2 j b u hb hu)
theorem Qaq {P : Program} {f : FuncId} {args args' : List AV} {h : AH} {Q : AOut → AH → Prop} (hw : WkL args args') (H : Xf P f args' h Q) : Xf P f args h Q :=
 ⟨H.1, fun F n c vals hF hst hh hvals => H.2 F n c vals hF hst hh (hvals.weak hw)⟩
theorem Yi {P : Program} {f : FuncId} {args args' : List AV} {r : AV} (hw : WkL args args') (H : Pure P f args' r) : Pure P f args r := fun h => Qaq hw (H h)
theorem QfS {P : Program} {N : Nat} {base : Bs × Fence} {ops : Array Oper} {Q : AS → Prop} {E : AV → AS → Prop} {F : Fence} {n : Nat} (hF : WF F) {Qx : Exit → Act → World → Prop} {tail : List Nat} : ∀ (l : List Oper) (k : Nat) (s : AS) (c : Cx) (a : Act), (∀ j, j < l.length → l[j]? = ops[k + j]?) →
  OpsW P N ops l Q E s → St c → SR N base c s a → (∀ s' c' a', Q s' → Ev c c' → St c' → SR N base c' s' a' → wpOpsIn F n P ops Qx tail a' c'.w) →
  (∀ r s' c' a' x, E r s' → Ev c c' → St c' → SR N base c' s' a' → Rel c' r x → Qx (.panic [{ v := x, recovered := false }]) a' c'.w) → wpOpsIn F n P ops Qx (List.range' k l.length ++ tail) a c.w
 | [], k, s, c, a, hl, H, hst, hr, hQ, hE => by
  simp only [Qp0, List.range'_zero, Qqd]
  exact hQ s c a H (Ev.refl c) hst hr
 | o :: l, k, s, c, a, hl, H, hst, hr, hQ, hE => by
  have h0 : ops[k]? = some o := by simpa using (hl 0 (by simp)).symm
  have hl' : ∀ j, j < l.length → l[j]? = ops[k + 1 + j]? := fun j hj => by have := hl (j + 1) (by simp; omega); simpa [Nat.add_assoc, Nat.add_comm 1 j] using this
  simp only [QpZ, List.range'_succ, Qqe, wpOpsIn, h0]
  simp only [OpsW] at H
  split at H
  ·rename_i hw
   rw [XN hr hw]
   simp only [if_true]
   refine QdB H hF hst hr ?_ ?_
   ·intro s' c' a' hK h1 h2 h3
    exact QfS hF l (k + 1) s' c' a' hl' hK h2 h3 (fun s2 c2 a2 q e2 t2 r2 => hQ s2 c2 a2 q (Ev.trans hst h1 e2) t2 r2) (fun r s2 c2 a2 x q e2 t2 r2 => hE r s2 c2 a2 x q (Ev.trans hst h1 e2) t2 r2)
   ·intro r s' c' x he h1 h2 h3 hx
    exact hE r s' c' a x he h1 h2 h3 hx
  ·rename_i hw
   rw [XN hr hw]
   simp only [QpQ, if_false]
   refine ⟨fun f _ => hF.fn f, ?_⟩
   have hr' := hr.put hst (Ev.refl c) o.dst (.v undef)
   rw [hr.h] at hr'
   exact QfS hF l (k + 1) _ c _ hl' H hst hr' hQ hE
  ·exact H.elim
end Go.Proofs.YtniljpjjnmkoaaaGreatDoor.Ab
namespace Go.Proofs.YtniljpjjnmkoaaaGreatDoor.Ab
open Go.RowKit
theorem WF.Qpq {F : Fence} (h : WF F) : F.plain = Fence.wide := by
 obtain ⟨fn, depth, alive, round⟩ := F
 obtain ⟨h1, h2, h3⟩ := h
 have h1' : ∀ f, fn f := h1
 have h2' : depth = none := h2
 have h3' : alive = false := h3
 subst h2' h3'
 have : fn = fun _ => True := funext fun f => by simpa using h1' f
 subst this
 rfl
theorem ZU {F : Fence} (hF : WF F) {n : Nat} {P : Program} {f : FuncId} {args : Array Value} {w : World} {R : Ending → World → Prop} (h : Calls P f args w R) : CallsIn F n P f args w R :=
 ZQ (by rw [hF.Qpq]; exact callsIn_wide.2 h)
theorem Grows.of_below {w w' : World} (h : Go.RowKit.Below w.heap.size w w') : Grows w w' := ⟨h.os, h.tape, h.output, h.size, h.block⟩
theorem QnA {c : Cx} {vs : List Value} {vals : Array Value} (h : RelL c (vs.map AV.v) vals) : vals = vs.toArray := by
 apply Array.ext'
 apply List.ext_getElem?
 intro j
 rcases Nat.lt_or_ge j vs.length with hj | hj
 ·have h1 : (vs.map AV.v)[j]? = some (.v vs[j]) := by rw [List.getElem?_map, List.getElem?_eq_getElem hj]; rfl
  have hs : vals.size = vs.length := by rw [h.1, List.length_map]
  have h2 : vals[j]? = some vals[j] := Array.getElem?_eq_getElem (by omega)
  have := h.2 j _ _ h1 h2
  rw [Array.getElem?_toList, h2, List.toList_toArray, List.getElem?_eq_getElem hj]
  generalize vals[j] = u at this
  cases this
  rfl
 ·have hs : vals.size = vs.length := by rw [h.1, List.length_map]
  rw [Array.getElem?_toList, Array.getElem?_eq_none (by omega), List.toList_toArray, List.getElem?_eq_none hj]
theorem QcY {P : Program} {f : FuncId} {vs : List Value} {h : AH} {a : AV} (hcall : ∀ vals w, (callFunc f vals).run P w = .ok (.enter f vals) w)
  (H : ∀ c : Cx, St c → c.h = h → Calls P f vs.toArray c.w fun e w' => ∃ u, e = .returned u ∧ Go.RowKit.Below c.w.heap.size c.w w' ∧ ∀ c', Rel c' a u) : Xf P f (vs.map AV.v) h fun o h' => o = .ret a ∧ h' = h := by
 refine ⟨hcall, fun F n c vals hF hst hh hvals => ZU hF ?_⟩
 rw [QnA hvals]
 refine (H c hst hh).mono ?_
 rintro e w' ⟨u, rfl, hb, hu⟩
 have hg := Grows.of_below hb
 exact ⟨.ret a, c.to w', ⟨rfl, hh⟩, Ev.grows hst hg, hst.grows hg, rfl, ⟨u, rfl, hu _⟩⟩
theorem QiC {P : Program} {f : FuncId} {vs : List Value} {a : AV} (hcall : ∀ vals w, (callFunc f vals).run P w = .ok (.enter f vals) w)
  (H : ∀ w, Calls P f vs.toArray w fun e w' => ∃ u, e = .returned u ∧ Go.RowKit.Below w.heap.size w w' ∧ ∀ c', Rel c' a u) : Pure P f (vs.map AV.v) a :=
 fun h => QcY hcall fun c _ _ => H c.w
end Go.Proofs.YtniljpjjnmkoaaaGreatDoor.Ab
namespace Go.Proofs.YtniljpjjnmkoaaaGreatDoor.Ab
def byteAt (s : ByteArray) (i : Nat) : Int := ((s.data.toList.getD i 0).toNat : Nat)
theorem Qjj (s : ByteArray) (i : Nat) : 0 ≤ byteAt s i ∧ byteAt s i < 256 := by
 have := (s.data.toList.getD i 0).toNat_lt
 unfold byteAt
 omega
theorem Qjn (s : ByteArray) (i : Nat) (h : i < s.size) : s[i]? = some (s.data.toList.getD i 0) := by
 have h' : i < s.data.size := h
 rw [getElem?_pos s i h]
 congr 1
 show s.data[i] = _
 rw [List.getD_eq_getElem?_getD, List.getElem?_eq_getElem (by simpa using h')]
 simp
theorem QgI (P : Program) (t : TypeId) (ht : P.underlying t = some .string) (s : ByteArray) (i : Nat) (h : i < s.size) : pv P (Instr.index t (.string s) (.int .i64 (i : Int))) = some (.int .u8 (byteAt s i)) := by
 have hi : (0 : Int) ≤ (i : Int) := by omega
 simp only [Instr.index, asIntOf, Bind.bind, Sem.bind, Pure.pure, pv, underlying, program, ht]
 rw [if_pos hi, Int.toNat_natCast, Qjn s i h]
 rfl
theorem QeL (P : Program) (t : TypeId) (ht : P.underlying t = some .string) (s : ByteArray) (h : 0 < s.size) : pv P (Instr.index t (.string s) (.int .i64 0)) = some (.int .u8 (byteAt s 0)) := QgI P t ht s 0 h
theorem QcP (P : Program) (q : IntKind) (i : Int) (y : Nat) (code : BoundsCode) (h : 0 ≤ i ∧ i ≤ (y : Int)) : pv P (Instr.sliceBound (.int q i) y code) = some i.toNat := by
 show pv P (if 0 ≤ i ∧ i ≤ (y : Int) then pure i.toNat else boundsPanic q i y code) = _
 rw [if_pos h]; rfl
theorem Qfe {α : Type} (P : Program) (a : α) : pv P (pure a : Sem α) = some a := rfl
theorem QeW (P : Program) {t : TypeId} {d : TypeDesc} (ht : P.underlying t = some d) : pv P (underlying t) = some d := by
 simp only [underlying, program, Bind.bind, Sem.bind, pv, ht]; rfl
theorem Qlq (P : Program) (len cap : Nat) (lo hi : Option (IntKind × Int)) (l k : Nat) (hk : match hi with | some (_, i) => 0 ≤ i ∧ i ≤ (cap : Int) ∧ i.toNat = k | none => len = k) (hl : match lo with | some (_, i) => 0 ≤ i ∧ i ≤ (k : Int) ∧ i.toNat = l | none => l = 0) :
  pv P (Instr.sliceBounds false len cap (lo.map fun x => .int x.1 x.2) (hi.map fun x => .int x.1 x.2) none) = some (l, k, cap) := by
 unfold Instr.sliceBounds
 cases hi with
 | none =>
  subst hk
  cases lo with
  | none => subst hl; rfl
  | some x =>
   obtain ⟨q, i⟩ := x
   obtain ⟨h1, h2, h3⟩ := hl
   simp only [Qqr, QpO, Ya, Qfe, QpR, Option.isSome_none, QpQ, ↓reduceIte, QcP P q i len .sliceB ⟨h1, h2⟩, h3]
 | some x =>
  obtain ⟨q, i⟩ := x
  obtain ⟨h1, h2, h3⟩ := hk
  cases lo with
  | none =>
   subst hl
   simp only [Qqr, QpO, Ya, Qfe, QpR, Option.isSome_none, QpQ, ↓reduceIte, QcP P q i cap .sliceAlen ⟨h1, h2⟩, h3]
  | some x =>
   obtain ⟨q', i'⟩ := x
   obtain ⟨h4, h5, h6⟩ := hl
   simp only [Qqr, QpO, Ya, Qfe, QpR, Option.isSome_none, QpQ, ↓reduceIte, QcP P q i cap .sliceAlen ⟨h1, h2⟩, h3, QcP P q' i' k .sliceB ⟨h4, h5⟩, h6]
theorem Ql0 (P : Program) (t : TypeId) (ht : P.underlying t = some .string) (s : ByteArray) (lo hi : Option (IntKind × Int)) (l k : Nat) (hk : match hi with | some (_, i) => 0 ≤ i ∧ i ≤ (s.size : Int) ∧ i.toNat = k | none => s.size = k) (hl : match lo with | some (_, i) => 0 ≤ i ∧ i ≤ (k : Int) ∧ i.toNat = l | none => l = 0) :
  pv P (Instr.sliceAt t (.string s) (lo.map fun x => .int x.1 x.2) (hi.map fun x => .int x.1 x.2) none) = some (.string (s.extract l k)) := by
 have hu : pv P (underlying t) = some .string := QeW P ht
 have := Qlq P s.size s.size lo hi l k hk hl
 unfold Instr.sliceAt
 rw [Ya, hu]
 show pv P (Instr.slice t (.string s) _ _ none) = _
 unfold Instr.slice
 rw [Ya, hu]
 simp only [QpR, Option.isSome_none, QpQ, ↓reduceIte, Ya, Qfe, this]
theorem QmQ (P : Program) (t : TypeId) (ht : P.underlying t = some .string) (s : ByteArray) (i : Nat) (h : i ≤ s.size) : pv P (Instr.sliceAt t (.string s) (some (.int .i64 (i : Int))) none none) = some (.string (s.extract i s.size)) :=
 Ql0 P t ht s (some (.i64, i)) none i s.size rfl ⟨by omega, by omega, by omega⟩
theorem ZY (P : Program) (t : TypeId) (xo yo : Operand) (a b : ByteArray) (h : a.size + b.size ≤ 9223372036854775807) : pv P (do eqGuard .add t xo yo (.string a) (.string b); binOp .add t (.string a) (.string b)) = some (.string (a ++ b)) := by
 have h1 : pv P (Op.stringOp .add a b) = some (.string (a ++ b)) := by
  unfold Op.stringOp
  simp only
  rw [if_neg (by show ¬ ((a.size + b.size : Nat) : Int) > 9223372036854775807; omega)]
  rfl
 rw [Ya]
 show (some ()).bind _ = _
 exact h1
section
variable (P : Program) (t : TypeId) (xo yo : Operand) (k : IntKind) (a b : Int)
end
theorem QiH (s : ByteArray) (i : Nat) : ((s.get! i).toNat : Int) = byteAt s i := by
 unfold byteAt
 congr 2
 show s.data[i]! = _
 rw [List.getD_eq_getElem?_getD]
 by_cases h : i < s.data.size
 ·rw [getElem!_pos s.data i h, List.getElem?_eq_getElem (by simpa using h)]
  simp
 ·rw [getElem!_neg s.data i h, List.getElem?_eq_none (by simpa using h)]
  rfl
theorem decode_ascii {s : ByteArray} {i : Nat} (h : byteAt s i < 128) : ((Utf8.decode s i).1 : Int) = byteAt s i ∧ (Utf8.decode s i).2 = 1 := by
 rw [← QiH] at h ⊢
 unfold Utf8.decode
 simp only [Qqb]
 rw [if_pos (by omega)]
 exact ⟨rfl, rfl⟩
theorem QiX {s : ByteArray} {i : Nat} (h : 128 ≤ byteAt s i) : 128 ≤ (Utf8.decode s i).1 := by
 rw [← QiH] at h
 unfold Utf8.decode
 simp only [Qqb]
 rw [if_neg (by omega)]
 have hr : (128 : Nat) ≤ Utf8.runeError := by decide
 repeat' split
 all_goals first | exact hr | (rename_i h; simp at h; omega) | (simp_all; omega)
end Go.Proofs.YtniljpjjnmkoaaaGreatDoor.Ab
set_option maxRecDepth 4000
namespace Go.Proofs.YtniljpjjnmkoaaaGreatDoor.Ab
open Go.Proofs
theorem FunW.call {P : Program} {f : FuncId} {args : List AV} {h : AH} {Q : AOut → AH → Prop} (H : Xf P f args h Q) : FunW P (.fn (.func f) [] []) args h Q := FunW.fn (by rw [List.nil_append, List.append_nil]; exact H)
theorem FunW.ret {P : Program} {fv : AV} {args : List AV} {h h' : AH} {r : AV} {Q : AOut → AH → Prop} (H : FunW P fv args h fun o h2 => o = .ret r ∧ h2 = h') (k : Q (.ret r) h') : FunW P fv args h Q := H.mono (by rintro _ _ ⟨rfl, rfl⟩; exact k)
def ofN (c : Int) : Int := if 97 ≤ c ∧ c ≤ 122 then 1 else if (65 ≤ c ∧ c ≤ 90) ∨ c = 95 then 2 else if 48 ≤ c ∧ c ≤ 57 then 4 else 0
theorem Qld (c : Int) (hc : 0 ≤ c ∧ c < 256) : Pure Tryz.prog 142 [.v (.int .u8 c)] (.v (.int .u8 (ofN c))) := by
 intro h
 have hcs : c < 48 ∨ 48 ≤ c ∧ c ≤ 57 ∨ 58 ≤ c ∧ c ≤ 64 ∨ 65 ≤ c ∧ c ≤ 90 ∨ 91 ≤ c ∧ c ≤ 94 ∨ c = 95 ∨ c = 96 ∨ 97 ≤ c ∧ c ≤ 122 ∨ 122 < c := by omega
 rcases hcs with hc1 | hc1 | hc1 | hc1 | hc1 | hc1 | hc1 | hc1 | hc1
 ·-- c < 48
  have e0 : ofN c = 0 := by simp only [ofN]; repeat' (first | rw [if_pos (by omega)] | rw [if_neg (by omega)])
  have a1 : ¬ 97 ≤ c := by omega
  have a2 : c ≤ 122 := by omega
  have a3 : ¬ 65 ≤ c := by omega
  have a4 : c ≤ 90 := by omega
  have a5 : ¬ 48 ≤ c := by omega
  have a6 : c ≤ 57 := by omega
  have a7 : (c == 95) = false := by simp; omega
  refine Qh Tryz.func142 rfl Tryz.call142 Tryz.ntmps142 (congrArg Array.toList Tryz.results142) (by simp) ?_
  repeat (first | ((first | (with_reducible (first | refine Qa fun K E hK hE => ?_ | refine Qk fun K E hK hE => ?_))); simp -implicitDefEqProofs only [Qe, Qf, OpW, aop, undef, AS.ev, Qv, ↓reduceIte, aBin, a1, a3, a5, a7, seval]) | (with_reducible (first | refine Qd fun K hK => ?_ | refine Qi ?_ | refine Qj ?_ | refine Qn ?_ | refine Qb ?_ | refine Qo ?_)) | ((with_reducible refine hK _ ?_); clear hK) | (refine Qg rfl ?_; simp only [↓reduceIte, QpQ]))
  simp only [QD, Ql, Qr, upd, ↓reduceIte, QpS, QpW]; first | refine Qc (htake _ _) (.keep (.v _)) ⟨by rw [e0], rfl⟩ | refine Qc List.take_length (.keep (.v _)) ⟨by rw [e0], rfl⟩
 ·-- 48 ≤ c ∧ c ≤ 57
  have e0 : ofN c = 4 := by simp only [ofN]; repeat' (first | rw [if_pos (by omega)] | rw [if_neg (by omega)])
  have a1 : ¬ 97 ≤ c := by omega
  have a2 : c ≤ 122 := by omega
  have a3 : ¬ 65 ≤ c := by omega
  have a4 : c ≤ 90 := by omega
  have a5 : 48 ≤ c := by omega
  have a6 : c ≤ 57 := by omega
  have a7 : (c == 95) = false := by simp; omega
  refine Qh Tryz.func142 rfl Tryz.call142 Tryz.ntmps142 (congrArg Array.toList Tryz.results142) (by simp) ?_
  repeat (first | ((first | (with_reducible (first | refine Qa fun K E hK hE => ?_ | refine Qk fun K E hK hE => ?_))); simp -implicitDefEqProofs only [Qe, Qf, OpW, aop, undef, AS.ev, Qv, ↓reduceIte, aBin, a1, a3, a5, a6, a7, seval]) | (with_reducible (first | refine Qd fun K hK => ?_ | refine Qi ?_ | refine Qj ?_ | refine Qb ?_ | refine Qq ?_ | refine Qs ?_)) | ((with_reducible refine hK _ ?_); clear hK) | (refine Qg rfl ?_; simp only [↓reduceIte, QpQ]))
  simp only [QD, Ql, Qr, upd, ↓reduceIte, QpS, QpW]; first | refine Qc (htake _ _) (.keep (.v _)) ⟨by rw [e0], rfl⟩ | refine Qc List.take_length (.keep (.v _)) ⟨by rw [e0], rfl⟩
 ·-- 58 ≤ c ∧ c ≤ 64
  have e0 : ofN c = 0 := by simp only [ofN]; repeat' (first | rw [if_pos (by omega)] | rw [if_neg (by omega)])
  have a1 : ¬ 97 ≤ c := by omega
  have a2 : c ≤ 122 := by omega
  have a3 : ¬ 65 ≤ c := by omega
  have a4 : c ≤ 90 := by omega
  have a5 : 48 ≤ c := by omega
  have a6 : ¬ c ≤ 57 := by omega
  have a7 : (c == 95) = false := by simp; omega
  refine Qh Tryz.func142 rfl Tryz.call142 Tryz.ntmps142 (congrArg Array.toList Tryz.results142) (by simp) ?_
  repeat (first | ((first | (with_reducible (first | refine Qa fun K E hK hE => ?_ | refine Qk fun K E hK hE => ?_))); simp -implicitDefEqProofs only [Qe, Qf, OpW, aop, undef, AS.ev, Qv, ↓reduceIte, aBin, a1, a3, a5, a6, a7, seval]) | (with_reducible (first | refine Qd fun K hK => ?_ | refine Qi ?_ | refine Qj ?_ | refine Qn ?_ | refine Qb ?_ | refine Qo ?_)) | ((with_reducible refine hK _ ?_); clear hK) | (refine Qg rfl ?_; simp only [↓reduceIte, QpQ]))
  simp only [QD, Ql, Qr, upd, ↓reduceIte, QpS, QpW]; first | refine Qc (htake _ _) (.keep (.v _)) ⟨by rw [e0], rfl⟩ | refine Qc List.take_length (.keep (.v _)) ⟨by rw [e0], rfl⟩
 ·-- 65 ≤ c ∧ c ≤ 90
  have e0 : ofN c = 2 := by simp only [ofN]; repeat' (first | rw [if_pos (by omega)] | rw [if_neg (by omega)])
  have a1 : ¬ 97 ≤ c := by omega
  have a2 : c ≤ 122 := by omega
  have a3 : 65 ≤ c := by omega
  have a4 : c ≤ 90 := by omega
  have a5 : 48 ≤ c := by omega
  have a6 : ¬ c ≤ 57 := by omega
  have a7 : (c == 95) = false := by simp; omega
  refine Qh Tryz.func142 rfl Tryz.call142 Tryz.ntmps142 (congrArg Array.toList Tryz.results142) (by simp) ?_
  repeat (first | (((with_reducible refine Qa fun K E hK hE => ?_)); simp -implicitDefEqProofs only [Qe, Qf, OpW, aop, undef, AS.ev, Qv, ↓reduceIte, aBin, a1, a3, a4, seval]) | (with_reducible (first | refine Qd fun K hK => ?_ | refine Qi ?_ | refine Qj ?_ | refine Qn ?_ | refine Qb ?_ | refine Qq ?_ | refine Qs ?_)) | ((with_reducible refine hK _ ?_); clear hK) | (refine Qg rfl ?_; simp only [↓reduceIte, QpQ]))
  simp only [QD, Ql, Qr, upd, ↓reduceIte, QpS, QpW]; first | refine Qc (htake _ _) (.keep (.v _)) ⟨by rw [e0], rfl⟩ | refine Qc List.take_length (.keep (.v _)) ⟨by rw [e0], rfl⟩
 ·-- 91 ≤ c ∧ c ≤ 94
  have e0 : ofN c = 0 := by simp only [ofN]; repeat' (first | rw [if_pos (by omega)] | rw [if_neg (by omega)])
  have a1 : ¬ 97 ≤ c := by omega
  have a2 : c ≤ 122 := by omega
  have a3 : 65 ≤ c := by omega
  have a4 : ¬ c ≤ 90 := by omega
  have a5 : 48 ≤ c := by omega
  have a6 : ¬ c ≤ 57 := by omega
  have a7 : (c == 95) = false := by simp; omega
  refine Qh Tryz.func142 rfl Tryz.call142 Tryz.ntmps142 (congrArg Array.toList Tryz.results142) (by simp) ?_
  repeat (first | ((first | (with_reducible (first | refine Qa fun K E hK hE => ?_ | refine Qk fun K E hK hE => ?_))); simp -implicitDefEqProofs only [Qe, Qf, OpW, aop, undef, AS.ev, Qv, ↓reduceIte, aBin, a1, a3, a4, a5, a6, a7, seval]) | (with_reducible (first | refine Qd fun K hK => ?_ | refine Qi ?_ | refine Qj ?_ | refine Qn ?_ | refine Qb ?_ | refine Qo ?_)) | ((with_reducible refine hK _ ?_); clear hK) | (refine Qg rfl ?_; simp only [↓reduceIte, QpQ]))
  simp only [QD, Ql, Qr, upd, ↓reduceIte, QpS, QpW]; first | refine Qc (htake _ _) (.keep (.v _)) ⟨by rw [e0], rfl⟩ | refine Qc List.take_length (.keep (.v _)) ⟨by rw [e0], rfl⟩
 ·-- c = 95
  have e0 : ofN c = 2 := by simp only [ofN]; repeat' (first | rw [if_pos (by omega)] | rw [if_neg (by omega)])
  have a1 : ¬ 97 ≤ c := by omega
  have a2 : c ≤ 122 := by omega
  have a3 : 65 ≤ c := by omega
  have a4 : ¬ c ≤ 90 := by omega
  have a5 : 48 ≤ c := by omega
  have a6 : ¬ c ≤ 57 := by omega
  have a7 : (c == 95) = true := by simp; omega
  refine Qh Tryz.func142 rfl Tryz.call142 Tryz.ntmps142 (congrArg Array.toList Tryz.results142) (by simp) ?_
  repeat (first | ((first | (with_reducible (first | refine Qa fun K E hK hE => ?_ | refine Qk fun K E hK hE => ?_))); simp -implicitDefEqProofs only [Qe, Qf, OpW, aop, undef, AS.ev, Qv, ↓reduceIte, aBin, a1, a3, a4, a7, seval]) | (with_reducible (first | refine Qd fun K hK => ?_ | refine Qi ?_ | refine Qj ?_ | refine Qb ?_ | refine Qq ?_ | refine Qs ?_)) | ((with_reducible refine hK _ ?_); clear hK) | (refine Qg rfl ?_; simp only [↓reduceIte, QpQ]))
  simp only [QD, Ql, Qr, upd, ↓reduceIte, QpS, QpW]; first | refine Qc (htake _ _) (.keep (.v _)) ⟨by rw [e0], rfl⟩ | refine Qc List.take_length (.keep (.v _)) ⟨by rw [e0], rfl⟩
 ·-- c = 96
  have e0 : ofN c = 0 := by simp only [ofN]; repeat' (first | rw [if_pos (by omega)] | rw [if_neg (by omega)])
  have a1 : ¬ 97 ≤ c := by omega
  have a2 : c ≤ 122 := by omega
  have a3 : 65 ≤ c := by omega
  have a4 : ¬ c ≤ 90 := by omega
  have a5 : 48 ≤ c := by omega
  have a6 : ¬ c ≤ 57 := by omega
  have a7 : (c == 95) = false := by simp; omega
  refine Qh Tryz.func142 rfl Tryz.call142 Tryz.ntmps142 (congrArg Array.toList Tryz.results142) (by simp) ?_
  repeat (first | ((first | (with_reducible (first | refine Qa fun K E hK hE => ?_ | refine Qk fun K E hK hE => ?_))); simp -implicitDefEqProofs only [Qe, Qf, OpW, aop, undef, AS.ev, Qv, ↓reduceIte, aBin, a1, a3, a4, a5, a6, a7, seval]) | (with_reducible (first | refine Qd fun K hK => ?_ | refine Qi ?_ | refine Qj ?_ | refine Qn ?_ | refine Qb ?_ | refine Qo ?_)) | ((with_reducible refine hK _ ?_); clear hK) | (refine Qg rfl ?_; simp only [↓reduceIte, QpQ]))
  simp only [QD, Ql, Qr, upd, ↓reduceIte, QpS, QpW]; first | refine Qc (htake _ _) (.keep (.v _)) ⟨by rw [e0], rfl⟩ | refine Qc List.take_length (.keep (.v _)) ⟨by rw [e0], rfl⟩
 ·-- 97 ≤ c ∧ c ≤ 122
  have e0 : ofN c = 1 := by simp only [ofN]; repeat' (first | rw [if_pos (by omega)] | rw [if_neg (by omega)])
  have a1 : 97 ≤ c := by omega
  have a2 : c ≤ 122 := by omega
  have a3 : 65 ≤ c := by omega
  have a4 : ¬ c ≤ 90 := by omega
  have a5 : 48 ≤ c := by omega
  have a6 : ¬ c ≤ 57 := by omega
  have a7 : (c == 95) = false := by simp; omega
  refine Qh Tryz.func142 rfl Tryz.call142 Tryz.ntmps142 (congrArg Array.toList Tryz.results142) (by simp) ?_
  repeat (first | (((with_reducible refine Qa fun K E hK hE => ?_)); simp -implicitDefEqProofs only [Qe, Qf, OpW, aop, undef, AS.ev, Qv, ↓reduceIte, aBin, a1, a2, seval]) | (with_reducible (first | refine Qd fun K hK => ?_ | refine Qi ?_ | refine Qj ?_ | refine Qq ?_ | refine Qs ?_)) | ((with_reducible refine hK _ ?_); clear hK) | (refine Qg rfl ?_; simp only [↓reduceIte]))
  simp only [QD, Ql, Qr, upd, ↓reduceIte, QpS, QpW]; first | refine Qc (htake _ _) (.keep (.v _)) ⟨by rw [e0], rfl⟩ | refine Qc List.take_length (.keep (.v _)) ⟨by rw [e0], rfl⟩
 ·-- 122 < c
  have e0 : ofN c = 0 := by simp only [ofN]; repeat' (first | rw [if_pos (by omega)] | rw [if_neg (by omega)])
  have a1 : 97 ≤ c := by omega
  have a2 : ¬ c ≤ 122 := by omega
  have a3 : 65 ≤ c := by omega
  have a4 : ¬ c ≤ 90 := by omega
  have a5 : 48 ≤ c := by omega
  have a6 : ¬ c ≤ 57 := by omega
  have a7 : (c == 95) = false := by simp; omega
  refine Qh Tryz.func142 rfl Tryz.call142 Tryz.ntmps142 (congrArg Array.toList Tryz.results142) (by simp) ?_
  repeat (first | ((first | (with_reducible (first | refine Qa fun K E hK hE => ?_ | refine Qk fun K E hK hE => ?_))); simp -implicitDefEqProofs only [Qe, Qf, OpW, aop, undef, AS.ev, Qv, ↓reduceIte, aBin, a1, a2, a3, a4, a5, a6, a7, seval]) | (with_reducible (first | refine Qd fun K hK => ?_ | refine Qi ?_ | refine Qj ?_ | refine Qn ?_ | refine Qb ?_ | refine Qo ?_)) | ((with_reducible refine hK _ ?_); clear hK) | (refine Qg rfl ?_; simp only [↓reduceIte, QpQ]))
  simp only [QD, Ql, Qr, upd, ↓reduceIte, QpS, QpW]; first | refine Qc (htake _ _) (.keep (.v _)) ⟨by rw [e0], rfl⟩ | refine Qc List.take_length (.keep (.v _)) ⟨by rw [e0], rfl⟩
theorem Qbe (c : Int) : Pure Tryz.prog 87 [.v (.int .u8 c)] (.b (decide (97 ≤ c ∧ c ≤ 122))) := by
 intro h
 by_cases a1 : c ≥ 97
 ·by_cases a2 : c ≤ 122
  ·refine Qh Tryz.func87 rfl Tryz.call87 Tryz.ntmps87 (congrArg Array.toList Tryz.results87) (by simp) ?_
   repeat (first | (((with_reducible refine Qa fun K E hK hE => ?_)); simp -implicitDefEqProofs only [Qe, Qf, OpW, aop, undef, AS.ev, Qv, ↓reduceIte, aBin, a1, a2, seval]) | (with_reducible refine Qj ?_) | ((with_reducible refine hK _ ?_); clear hK))
   simp only [QD, Ql, Qr, upd, ↓reduceIte, QpS, QpW]; first | refine Qc (htake _ _) (.keep (.v _)) ⟨by rw [decide_eq_true ⟨a1, a2⟩], rfl⟩ | refine Qc List.take_length (.keep (.v _)) ⟨by rw [decide_eq_true ⟨a1, a2⟩], rfl⟩
  ·refine Qh Tryz.func87 rfl Tryz.call87 Tryz.ntmps87 (congrArg Array.toList Tryz.results87) (by simp) ?_
   repeat (first | (((with_reducible refine Qa fun K E hK hE => ?_)); simp -implicitDefEqProofs only [Qe, Qf, OpW, aop, undef, AS.ev, Qv, ↓reduceIte, aBin, a1, a2, seval]) | (with_reducible refine Qj ?_) | ((with_reducible refine hK _ ?_); clear hK))
   simp only [QD, Ql, Qr, upd, ↓reduceIte, QpS, QpW]; first | refine Qc (htake _ _) (.keep (.v _)) ⟨by rw [decide_eq_false (fun h => a2 h.2)], rfl⟩ | refine Qc List.take_length (.keep (.v _)) ⟨by rw [decide_eq_false (fun h => a2 h.2)], rfl⟩
 ·refine Qh Tryz.func87 rfl Tryz.call87 Tryz.ntmps87 (congrArg Array.toList Tryz.results87) (by simp) ?_
  repeat (first | (((with_reducible refine Qa fun K E hK hE => ?_)); simp -implicitDefEqProofs only [Qe, Qf, OpW, aop, undef, AS.ev, Qv, ↓reduceIte, aBin, a1, seval]) | (with_reducible refine Qj ?_) | ((with_reducible refine hK _ ?_); clear hK))
  simp only [QD, Ql, Qr, upd, ↓reduceIte, QpS, QpW]; first | refine Qc (htake _ _) (.keep (.v _)) ⟨by rw [decide_eq_false (fun h => a1 h.1)], rfl⟩ | refine Qc List.take_length (.keep (.v _)) ⟨by rw [decide_eq_false (fun h => a1 h.1)], rfl⟩
theorem QeS (c : Int) : Pure Tryz.prog 127 [.v (.int .u8 c)] (.b (decide (65 ≤ c ∧ c ≤ 90))) := by
 intro h
 by_cases a1 : c ≥ 65
 ·by_cases a2 : c ≤ 90
  ·refine Qh Tryz.func127 rfl Tryz.call127 Tryz.ntmps127 (congrArg Array.toList Tryz.results127) (by simp) ?_
   repeat (first | (((with_reducible refine Qa fun K E hK hE => ?_)); simp -implicitDefEqProofs only [Qe, Qf, OpW, aop, undef, AS.ev, Qv, ↓reduceIte, aBin, a1, a2, seval]) | (with_reducible refine Qj ?_) | ((with_reducible refine hK _ ?_); clear hK))
   simp only [QD, Ql, Qr, upd, ↓reduceIte, QpS, QpW]; first | refine Qc (htake _ _) (.keep (.v _)) ⟨by rw [decide_eq_true ⟨a1, a2⟩], rfl⟩ | refine Qc List.take_length (.keep (.v _)) ⟨by rw [decide_eq_true ⟨a1, a2⟩], rfl⟩
  ·refine Qh Tryz.func127 rfl Tryz.call127 Tryz.ntmps127 (congrArg Array.toList Tryz.results127) (by simp) ?_
   repeat (first | (((with_reducible refine Qa fun K E hK hE => ?_)); simp -implicitDefEqProofs only [Qe, Qf, OpW, aop, undef, AS.ev, Qv, ↓reduceIte, aBin, a1, a2, seval]) | (with_reducible refine Qj ?_) | ((with_reducible refine hK _ ?_); clear hK))
   simp only [QD, Ql, Qr, upd, ↓reduceIte, QpS, QpW]; first | refine Qc (htake _ _) (.keep (.v _)) ⟨by rw [decide_eq_false (fun h => a2 h.2)], rfl⟩ | refine Qc List.take_length (.keep (.v _)) ⟨by rw [decide_eq_false (fun h => a2 h.2)], rfl⟩
 ·refine Qh Tryz.func127 rfl Tryz.call127 Tryz.ntmps127 (congrArg Array.toList Tryz.results127) (by simp) ?_
  repeat (first | (((with_reducible refine Qa fun K E hK hE => ?_)); simp -implicitDefEqProofs only [Qe, Qf, OpW, aop, undef, AS.ev, Qv, ↓reduceIte, aBin, a1, seval]) | (with_reducible refine Qj ?_) | ((with_reducible refine hK _ ?_); clear hK))
  simp only [QD, Ql, Qr, upd, ↓reduceIte, QpS, QpW]; first | refine Qc (htake _ _) (.keep (.v _)) ⟨by rw [decide_eq_false (fun h => a1 h.1)], rfl⟩ | refine Qc List.take_length (.keep (.v _)) ⟨by rw [decide_eq_false (fun h => a1 h.1)], rfl⟩
def resB (s : ByteArray) : Bool := (s.toList == ({ data := #[99, 111, 110, 115, 116, 114, 97, 105, 110, 116] } : ByteArray).toList) || (s.toList == ({ data := #[116, 114, 117, 101] } : ByteArray).toList) || (s.toList == ({ data := #[102, 97, 105, 108] } : ByteArray).toList) || (s.toList == ({ data := #[105, 115] } : ByteArray).toList) || (s.toList == ({ data := #[105, 110, 116] } : ByteArray).toList) || (s.toList == ({ data := #[103, 114, 111, 117, 110, 100] } : ByteArray).toList)
theorem QeZ (s : ByteArray) : Pure Tryz.prog 114 [.v (.string s)] (.b (resB s)) := by
 intro h
 cases d0 : (s.toList == ({ data := #[99, 111, 110, 115, 116, 114, 97, 105, 110, 116] } : ByteArray).toList) with
 | true =>
  refine Qh Tryz.func114 rfl Tryz.call114 Tryz.ntmps114 (congrArg Array.toList Tryz.results114) (by simp) ?_
  repeat (first | (((with_reducible refine Qa fun K E hK hE => ?_)); simp -implicitDefEqProofs only [Qe, Qf, OpW, aop, undef, AS.ev, Qv, ↓reduceIte, aBin, d0, seval]) | (with_reducible (first | refine Qd fun K hK => ?_ | refine Qi ?_ | refine Qj ?_ | refine Qn ?_ | refine Qb ?_ | refine Qq ?_ | refine Qs ?_)) | ((with_reducible refine hK _ ?_); clear hK) | (refine Qg rfl ?_; simp only [↓reduceIte]))
  simp only [QD, Ql, Qr, upd, ↓reduceIte, QpS, QpW]; first | refine Qc (htake _ _) (.keep (.v _)) ⟨by simp only [resB, d0, Bool.true_or], rfl⟩ | refine Qc List.take_length (.keep (.v _)) ⟨by simp only [resB, d0, Bool.true_or], rfl⟩
 | false =>
  cases d1 : (s.toList == ({ data := #[116, 114, 117, 101] } : ByteArray).toList) with
  | true =>
   refine Qh Tryz.func114 rfl Tryz.call114 Tryz.ntmps114 (congrArg Array.toList Tryz.results114) (by simp) ?_
   repeat (first | (((with_reducible refine Qa fun K E hK hE => ?_)); simp -implicitDefEqProofs only [Qe, Qf, OpW, aop, undef, AS.ev, Qv, ↓reduceIte, aBin, d0, d1, seval]) | (with_reducible (first | refine Qd fun K hK => ?_ | refine Qi ?_ | refine Qj ?_ | refine Qn ?_ | refine Qb ?_ | refine Qq ?_ | refine Qs ?_)) | ((with_reducible refine hK _ ?_); clear hK) | (refine Qg rfl ?_; simp only [↓reduceIte, QpQ]))
   simp only [QD, Ql, Qr, upd, ↓reduceIte, QpS, QpW]; first | refine Qc (htake _ _) (.keep (.v _)) ⟨by simp only [resB, d0, d1, Bool.or_true, Bool.true_or], rfl⟩ | refine Qc List.take_length (.keep (.v _)) ⟨by simp only [resB, d0, d1, Bool.or_true, Bool.true_or], rfl⟩
  | false =>
   cases d2 : (s.toList == ({ data := #[102, 97, 105, 108] } : ByteArray).toList) with
   | true =>
    refine Qh Tryz.func114 rfl Tryz.call114 Tryz.ntmps114 (congrArg Array.toList Tryz.results114) (by simp) ?_
    repeat (first | (((with_reducible refine Qa fun K E hK hE => ?_)); simp -implicitDefEqProofs only [Qe, Qf, OpW, aop, undef, AS.ev, Qv, ↓reduceIte, aBin, d0, d1, d2, seval]) | (with_reducible (first | refine Qd fun K hK => ?_ | refine Qi ?_ | refine Qj ?_ | refine Qn ?_ | refine Qb ?_ | refine Qq ?_ | refine Qs ?_)) | ((with_reducible refine hK _ ?_); clear hK) | (refine Qg rfl ?_; simp only [↓reduceIte, QpQ]))
    simp only [QD, Ql, Qr, upd, ↓reduceIte, QpS, QpW]; first | refine Qc (htake _ _) (.keep (.v _)) ⟨by simp only [resB, d0, d1, d2, Bool.or_false, Bool.or_true, Bool.true_or], rfl⟩ | refine Qc List.take_length (.keep (.v _)) ⟨by simp only [resB, d0, d1, d2, Bool.or_false, Bool.or_true, Bool.true_or], rfl⟩
   | false =>
    cases d3 : (s.toList == ({ data := #[105, 115] } : ByteArray).toList) with
    | true =>
     refine Qh Tryz.func114 rfl Tryz.call114 Tryz.ntmps114 (congrArg Array.toList Tryz.results114) (by simp) ?_
     repeat (first | (((with_reducible refine Qa fun K E hK hE => ?_)); simp -implicitDefEqProofs only [Qe, Qf, OpW, aop, undef, AS.ev, Qv, ↓reduceIte, aBin, d0, d1, d2, d3, seval]) | (with_reducible (first | refine Qd fun K hK => ?_ | refine Qi ?_ | refine Qj ?_ | refine Qn ?_ | refine Qb ?_ | refine Qq ?_ | refine Qs ?_)) | ((with_reducible refine hK _ ?_); clear hK) | (refine Qg rfl ?_; simp only [↓reduceIte, QpQ]))
     simp only [QD, Ql, Qr, upd, ↓reduceIte, QpS, QpW]; first | refine Qc (htake _ _) (.keep (.v _)) ⟨by simp only [resB, d0, d1, d2, d3, Bool.or_false, Bool.or_true, Bool.true_or], rfl⟩ | refine Qc List.take_length (.keep (.v _)) ⟨by simp only [resB, d0, d1, d2, d3, Bool.or_false, Bool.or_true, Bool.true_or], rfl⟩
    | false =>
     cases d4 : (s.toList == ({ data := #[105, 110, 116] } : ByteArray).toList) with
     | true =>
      refine Qh Tryz.func114 rfl Tryz.call114 Tryz.ntmps114 (congrArg Array.toList Tryz.results114) (by simp) ?_
      repeat (first | (((with_reducible refine Qa fun K E hK hE => ?_)); simp -implicitDefEqProofs only [Qe, Qf, OpW, aop, undef, AS.ev, Qv, ↓reduceIte, aBin, d0, d1, d2, d3, d4, seval]) | (with_reducible (first | refine Qd fun K hK => ?_ | refine Qi ?_ | refine Qj ?_ | refine Qn ?_ | refine Qb ?_ | refine Qq ?_ | refine Qs ?_)) | ((with_reducible refine hK _ ?_); clear hK) | (refine Qg rfl ?_; simp only [↓reduceIte, QpQ]))
      simp only [QD, Ql, Qr, upd, ↓reduceIte, QpS, QpW]; first | refine Qc (htake _ _) (.keep (.v _)) ⟨by simp only [resB, d0, d1, d2, d3, d4, Bool.or_false, Bool.or_true, Bool.true_or], rfl⟩ | refine Qc List.take_length (.keep (.v _)) ⟨by simp only [resB, d0, d1, d2, d3, d4, Bool.or_false, Bool.or_true, Bool.true_or], rfl⟩
     | false =>
      cases d5 : (s.toList == ({ data := #[103, 114, 111, 117, 110, 100] } : ByteArray).toList) with
      | true =>
       refine Qh Tryz.func114 rfl Tryz.call114 Tryz.ntmps114 (congrArg Array.toList Tryz.results114) (by simp) ?_
       repeat (first | ((first | (with_reducible (first | refine Qa fun K E hK hE => ?_ | refine Qk fun K E hK hE => ?_))); simp -implicitDefEqProofs only [Qe, Qf, OpW, aop, undef, AS.ev, Qv, ↓reduceIte, aBin, d0, d1, d2, d3, d4, d5, seval]) | (with_reducible (first | refine Qd fun K hK => ?_ | refine Qi ?_ | refine Qj ?_ | refine Qb ?_ | refine Qq ?_ | refine Qs ?_)) | ((with_reducible refine hK _ ?_); clear hK) | (refine Qg rfl ?_; simp only [↓reduceIte, QpQ]))
       simp only [QD, Ql, Qr, upd, ↓reduceIte, QpS, QpW]; first | refine Qc (htake _ _) (.keep (.v _)) ⟨by simp only [resB, d0, d1, d2, d3, d4, d5, Bool.or_false, Bool.or_true], rfl⟩ | refine Qc List.take_length (.keep (.v _)) ⟨by simp only [resB, d0, d1, d2, d3, d4, d5, Bool.or_false, Bool.or_true], rfl⟩
      | false =>
       refine Qh Tryz.func114 rfl Tryz.call114 Tryz.ntmps114 (congrArg Array.toList Tryz.results114) (by simp) ?_
       repeat (first | ((first | (with_reducible (first | refine Qa fun K E hK hE => ?_ | refine Qk fun K E hK hE => ?_))); simp -implicitDefEqProofs only [Qe, Qf, OpW, aop, undef, AS.ev, Qv, ↓reduceIte, aBin, d0, d1, d2, d3, d4, d5, seval]) | (with_reducible (first | refine Qd fun K hK => ?_ | refine Qi ?_ | refine Qj ?_ | refine Qn ?_ | refine Qb ?_ | refine Qo ?_)) | ((with_reducible refine hK _ ?_); clear hK) | (refine Qg rfl ?_; simp only [↓reduceIte, QpQ]))
       simp only [QD, Ql, Qr, upd, ↓reduceIte, QpS, QpW]; first | refine Qc (htake _ _) (.keep (.v _)) ⟨by simp only [resB, d0, d1, d2, d3, d4, d5, Bool.or_false], rfl⟩ | refine Qc List.take_length (.keep (.v _)) ⟨by simp only [resB, d0, d1, d2, d3, d4, d5, Bool.or_false], rfl⟩
theorem QcC (s : ByteArray) : Pure Tryz.prog 88 [.v (.string s)] (.b (resB s)) := by
 intro h
 cases d0 : (s.toList == ({ data := #[99, 111, 110, 115, 116, 114, 97, 105, 110, 116] } : ByteArray).toList) with
 | true =>
  refine Qh Tryz.func88 rfl Tryz.call88 Tryz.ntmps88 (congrArg Array.toList Tryz.results88) (by simp) ?_
  iterate 3 (try (first | (((with_reducible refine Qa fun K E hK hE => ?_)); simp -implicitDefEqProofs only [Q4, Q2, Qf, OpW, aop, AS.ev, Q6, Xq, Nat.reduceLT]) | (with_reducible refine Qd fun K hK => ?_) | ((with_reducible refine hK _ ?_); clear hK)))
  (with_reducible refine Qk fun K E hK hE => ?_)
  (try simp only [Qqn]); refine QE 4 (fun K1 hK1 => ?_); simp -implicitDefEqProofs only [Qe, Qf, OpW, aop, undef, AS.ev, Qv, ↓reduceIte, aBin, d0, seval]; refine hK1 _ ?_; clear hK1
  (try simp only [QpV, Qp3]); refine QE 4 (fun K1 hK1 => ?_); simp -implicitDefEqProofs only [Qe, Qf, OpW, aop, undef, AS.ev, ↓reduceIte, seval]; refine hK1 _ ?_; clear hK1
  (try simp only [QpV, Qp3]); refine QE 4 (fun K1 hK1 => ?_); simp -implicitDefEqProofs only [Qe, Qf, OpW, aop, undef, AS.ev, ↓reduceIte, seval]; refine hK1 _ ?_; clear hK1
  (try simp only [QpV, Qp3]); refine QE 4 (fun K1 hK1 => ?_); simp -implicitDefEqProofs only [Qe, Qf, OpW, aop, undef, AS.ev, ↓reduceIte, seval]; refine hK1 _ ?_; clear hK1
  (try simp only [QpV, Qp3]); refine QE 4 (fun K1 hK1 => ?_); simp -implicitDefEqProofs only [Qe, Qf, OpW, aop, undef, AS.ev, ↓reduceIte, seval]; refine hK1 _ ?_; clear hK1
  (try simp only [QpV, Qp3])
  simp -implicitDefEqProofs only [Qe, Qf, OpW, aop, undef, AS.ev, ↓reduceIte, seval]
  repeat (first | (with_reducible (first | refine Qj ?_ | refine Qb ?_)) | ((with_reducible refine hK _ ?_); clear hK))
  simp only [QD, Ql, Qr, upd, ↓reduceIte, QpS, QpW]; first | refine Qc (htake _ _) (.keep (.v _)) ⟨by simp only [resB, d0, Bool.true_or], rfl⟩ | refine Qc List.take_length (.keep (.v _)) ⟨by simp only [resB, d0, Bool.true_or], rfl⟩
 | false =>
  cases d1 : (s.toList == ({ data := #[116, 114, 117, 101] } : ByteArray).toList) with
  | true =>
   refine Qh Tryz.func88 rfl Tryz.call88 Tryz.ntmps88 (congrArg Array.toList Tryz.results88) (by simp) ?_
   iterate 3 (try (first | (((with_reducible refine Qa fun K E hK hE => ?_)); simp -implicitDefEqProofs only [Q4, Q2, Qf, OpW, aop, AS.ev, Q6, Xq, Nat.reduceLT]) | (with_reducible refine Qd fun K hK => ?_) | ((with_reducible refine hK _ ?_); clear hK)))
   (with_reducible refine Qk fun K E hK hE => ?_)
   (try simp only [Qqn]); refine QE 4 (fun K1 hK1 => ?_); simp -implicitDefEqProofs only [Qe, Qf, OpW, aop, undef, AS.ev, Qv, ↓reduceIte, aBin, d0, seval]; refine hK1 _ ?_; clear hK1
   (try simp only [QpV, Qp3]); refine QE 4 (fun K1 hK1 => ?_); simp -implicitDefEqProofs only [Qe, Qf, OpW, aop, undef, AS.ev, ↓reduceIte, aBin, d1, seval]; refine hK1 _ ?_; clear hK1
   (try simp only [QpV, Qp3]); refine QE 4 (fun K1 hK1 => ?_); simp -implicitDefEqProofs only [Qe, Qf, OpW, aop, undef, AS.ev, ↓reduceIte, seval]; refine hK1 _ ?_; clear hK1
   (try simp only [QpV, Qp3]); refine QE 4 (fun K1 hK1 => ?_); simp -implicitDefEqProofs only [Qe, Qf, OpW, aop, undef, AS.ev, ↓reduceIte, seval]; refine hK1 _ ?_; clear hK1
   (try simp only [QpV, Qp3]); refine QE 4 (fun K1 hK1 => ?_); simp -implicitDefEqProofs only [Qe, Qf, OpW, aop, undef, AS.ev, ↓reduceIte, seval]; refine hK1 _ ?_; clear hK1
   (try simp only [QpV, Qp3])
   simp -implicitDefEqProofs only [Qe, Qf, OpW, aop, undef, AS.ev, ↓reduceIte, seval]
   repeat (first | (with_reducible (first | refine Qj ?_ | refine Qb ?_)) | ((with_reducible refine hK _ ?_); clear hK))
   simp only [QD, Ql, Qr, upd, ↓reduceIte, QpS, QpW]; first | refine Qc (htake _ _) (.keep (.v _)) ⟨by simp only [resB, d0, d1, Bool.or_true, Bool.true_or], rfl⟩ | refine Qc List.take_length (.keep (.v _)) ⟨by simp only [resB, d0, d1, Bool.or_true, Bool.true_or], rfl⟩
  | false =>
   cases d2 : (s.toList == ({ data := #[102, 97, 105, 108] } : ByteArray).toList) with
   | true =>
    refine Qh Tryz.func88 rfl Tryz.call88 Tryz.ntmps88 (congrArg Array.toList Tryz.results88) (by simp) ?_
    iterate 3 (try (first | (((with_reducible refine Qa fun K E hK hE => ?_)); simp -implicitDefEqProofs only [Q4, Q2, Qf, OpW, aop, AS.ev, Q6, Xq, Nat.reduceLT]) | (with_reducible refine Qd fun K hK => ?_) | ((with_reducible refine hK _ ?_); clear hK)))
    (with_reducible refine Qk fun K E hK hE => ?_)
    (try simp only [Qqn]); refine QE 4 (fun K1 hK1 => ?_); simp -implicitDefEqProofs only [Qe, Qf, OpW, aop, undef, AS.ev, Qv, ↓reduceIte, aBin, d0, seval]; refine hK1 _ ?_; clear hK1
    (try simp only [QpV, Qp3]); refine QE 4 (fun K1 hK1 => ?_); simp -implicitDefEqProofs only [Qe, Qf, OpW, aop, undef, AS.ev, Qv, ↓reduceIte, aBin, d1, seval]; refine hK1 _ ?_; clear hK1
    (try simp only [QpV, Qp3]); refine QE 4 (fun K1 hK1 => ?_); simp -implicitDefEqProofs only [Qe, Qf, OpW, aop, undef, AS.ev, ↓reduceIte, aBin, d2, seval]; refine hK1 _ ?_; clear hK1
    (try simp only [QpV, Qp3]); refine QE 4 (fun K1 hK1 => ?_); simp -implicitDefEqProofs only [Qe, Qf, OpW, aop, undef, AS.ev, ↓reduceIte, seval]; refine hK1 _ ?_; clear hK1
    (try simp only [QpV, Qp3]); refine QE 4 (fun K1 hK1 => ?_); simp -implicitDefEqProofs only [Qe, Qf, OpW, aop, undef, AS.ev, ↓reduceIte, seval]; refine hK1 _ ?_; clear hK1
    (try simp only [QpV, Qp3])
    simp -implicitDefEqProofs only [Qe, Qf, OpW, aop, undef, AS.ev, ↓reduceIte, seval]
    repeat (first | (with_reducible (first | refine Qj ?_ | refine Qb ?_)) | ((with_reducible refine hK _ ?_); clear hK))
    simp only [QD, Ql, Qr, upd, ↓reduceIte, QpS, QpW]; first | refine Qc (htake _ _) (.keep (.v _)) ⟨by simp only [resB, d0, d1, d2, Bool.or_false, Bool.or_true, Bool.true_or], rfl⟩ | refine Qc List.take_length (.keep (.v _)) ⟨by simp only [resB, d0, d1, d2, Bool.or_false, Bool.or_true, Bool.true_or], rfl⟩
   | false =>
    cases d3 : (s.toList == ({ data := #[105, 115] } : ByteArray).toList) with
    | true =>
     refine Qh Tryz.func88 rfl Tryz.call88 Tryz.ntmps88 (congrArg Array.toList Tryz.results88) (by simp) ?_
     iterate 3 (try (first | (((with_reducible refine Qa fun K E hK hE => ?_)); simp -implicitDefEqProofs only [Q4, Q2, Qf, OpW, aop, AS.ev, Q6, Xq, Nat.reduceLT]) | (with_reducible refine Qd fun K hK => ?_) | ((with_reducible refine hK _ ?_); clear hK)))
     (with_reducible refine Qk fun K E hK hE => ?_)
     (try simp only [Qqn]); refine QE 4 (fun K1 hK1 => ?_); simp -implicitDefEqProofs only [Qe, Qf, OpW, aop, undef, AS.ev, Qv, ↓reduceIte, aBin, d0, seval]; refine hK1 _ ?_; clear hK1
     (try simp only [QpV, Qp3]); refine QE 4 (fun K1 hK1 => ?_); simp -implicitDefEqProofs only [Qe, Qf, OpW, aop, undef, AS.ev, Qv, ↓reduceIte, aBin, d1, seval]; refine hK1 _ ?_; clear hK1
     (try simp only [QpV, Qp3]); refine QE 4 (fun K1 hK1 => ?_); simp -implicitDefEqProofs only [Qe, Qf, OpW, aop, undef, AS.ev, Qv, ↓reduceIte, aBin, d2, seval]; refine hK1 _ ?_; clear hK1
     (try simp only [QpV, Qp3]); refine QE 4 (fun K1 hK1 => ?_); simp -implicitDefEqProofs only [Qe, Qf, OpW, aop, undef, AS.ev, ↓reduceIte, aBin, d3, seval]; refine hK1 _ ?_; clear hK1
     (try simp only [QpV, Qp3]); refine QE 4 (fun K1 hK1 => ?_); simp -implicitDefEqProofs only [Qe, Qf, OpW, aop, undef, AS.ev, ↓reduceIte, seval]; refine hK1 _ ?_; clear hK1
     (try simp only [QpV, Qp3])
     simp -implicitDefEqProofs only [Qe, Qf, OpW, aop, undef, AS.ev, ↓reduceIte, seval]
     repeat (first | (with_reducible (first | refine Qj ?_ | refine Qb ?_)) | ((with_reducible refine hK _ ?_); clear hK))
     simp only [QD, Ql, Qr, upd, ↓reduceIte, QpS, QpW]; first | refine Qc (htake _ _) (.keep (.v _)) ⟨by simp only [resB, d0, d1, d2, d3, Bool.or_false, Bool.or_true, Bool.true_or], rfl⟩ | refine Qc List.take_length (.keep (.v _)) ⟨by simp only [resB, d0, d1, d2, d3, Bool.or_false, Bool.or_true, Bool.true_or], rfl⟩
    | false =>
     cases d4 : (s.toList == ({ data := #[105, 110, 116] } : ByteArray).toList) with
     | true =>
      refine Qh Tryz.func88 rfl Tryz.call88 Tryz.ntmps88 (congrArg Array.toList Tryz.results88) (by simp) ?_
      iterate 3 (try (first | (((with_reducible refine Qa fun K E hK hE => ?_)); simp -implicitDefEqProofs only [Q4, Q2, Qf, OpW, aop, AS.ev, Q6, Xq, Nat.reduceLT]) | (with_reducible refine Qd fun K hK => ?_) | ((with_reducible refine hK _ ?_); clear hK)))
      (with_reducible refine Qk fun K E hK hE => ?_)
      (try simp only [Qqn]); refine QE 4 (fun K1 hK1 => ?_); simp -implicitDefEqProofs only [Qe, Qf, OpW, aop, undef, AS.ev, Qv, ↓reduceIte, aBin, d0, seval]; refine hK1 _ ?_; clear hK1
      (try simp only [QpV, Qp3]); refine QE 4 (fun K1 hK1 => ?_); simp -implicitDefEqProofs only [Qe, Qf, OpW, aop, undef, AS.ev, Qv, ↓reduceIte, aBin, d1, seval]; refine hK1 _ ?_; clear hK1
      (try simp only [QpV, Qp3]); refine QE 4 (fun K1 hK1 => ?_); simp -implicitDefEqProofs only [Qe, Qf, OpW, aop, undef, AS.ev, Qv, ↓reduceIte, aBin, d2, seval]; refine hK1 _ ?_; clear hK1
      (try simp only [QpV, Qp3]); refine QE 4 (fun K1 hK1 => ?_); simp -implicitDefEqProofs only [Qe, Qf, OpW, aop, undef, AS.ev, Qv, ↓reduceIte, aBin, d3, seval]; refine hK1 _ ?_; clear hK1
      (try simp only [QpV, Qp3]); refine QE 4 (fun K1 hK1 => ?_); simp -implicitDefEqProofs only [Qe, Qf, OpW, aop, undef, AS.ev, ↓reduceIte, aBin, d4, seval]; refine hK1 _ ?_; clear hK1
      (try simp only [QpV, Qp3])
      simp -implicitDefEqProofs only [Qe, Qf, OpW, aop, undef, AS.ev, ↓reduceIte, seval]
      repeat (first | (with_reducible (first | refine Qj ?_ | refine Qb ?_)) | ((with_reducible refine hK _ ?_); clear hK))
      simp only [QD, Ql, Qr, upd, ↓reduceIte, QpS, QpW]; first | refine Qc (htake _ _) (.keep (.v _)) ⟨by simp only [resB, d0, d1, d2, d3, d4, Bool.or_false, Bool.or_true, Bool.true_or], rfl⟩ | refine Qc List.take_length (.keep (.v _)) ⟨by simp only [resB, d0, d1, d2, d3, d4, Bool.or_false, Bool.or_true, Bool.true_or], rfl⟩
     | false =>
      cases d5 : (s.toList == ({ data := #[103, 114, 111, 117, 110, 100] } : ByteArray).toList) with
      | true =>
       refine Qh Tryz.func88 rfl Tryz.call88 Tryz.ntmps88 (congrArg Array.toList Tryz.results88) (by simp) ?_
       iterate 3 (try (first | (((with_reducible refine Qa fun K E hK hE => ?_)); simp -implicitDefEqProofs only [Q4, Q2, Qf, OpW, aop, AS.ev, Q6, Xq, Nat.reduceLT]) | (with_reducible refine Qd fun K hK => ?_) | ((with_reducible refine hK _ ?_); clear hK)))
       (with_reducible refine Qk fun K E hK hE => ?_)
       (try simp only [Qqn]); refine QE 4 (fun K1 hK1 => ?_); simp -implicitDefEqProofs only [Qe, Qf, OpW, aop, undef, AS.ev, Qv, ↓reduceIte, aBin, d0, seval]; refine hK1 _ ?_; clear hK1
       (try simp only [QpV, Qp3]); refine QE 4 (fun K1 hK1 => ?_); simp -implicitDefEqProofs only [Qe, Qf, OpW, aop, undef, AS.ev, Qv, ↓reduceIte, aBin, d1, seval]; refine hK1 _ ?_; clear hK1
       (try simp only [QpV, Qp3]); refine QE 4 (fun K1 hK1 => ?_); simp -implicitDefEqProofs only [Qe, Qf, OpW, aop, undef, AS.ev, Qv, ↓reduceIte, aBin, d2, seval]; refine hK1 _ ?_; clear hK1
       (try simp only [QpV, Qp3]); refine QE 4 (fun K1 hK1 => ?_); simp -implicitDefEqProofs only [Qe, Qf, OpW, aop, undef, AS.ev, Qv, ↓reduceIte, aBin, d3, seval]; refine hK1 _ ?_; clear hK1
       (try simp only [QpV, Qp3]); refine QE 4 (fun K1 hK1 => ?_); simp -implicitDefEqProofs only [Qe, Qf, OpW, aop, undef, AS.ev, Qv, ↓reduceIte, aBin, d4, seval]; refine hK1 _ ?_; clear hK1
       (try simp only [QpV, Qp3])
       simp -implicitDefEqProofs only [Qe, Qf, OpW, aop, AS.ev, ↓reduceIte, aBin, d5, seval]
       repeat (first | (with_reducible (first | refine Qj ?_ | refine Qb ?_)) | ((with_reducible refine hK _ ?_); clear hK))
       simp only [QD, Ql, Qr, upd, ↓reduceIte, QpS, QpW]; first | refine Qc (htake _ _) (.keep (.v _)) ⟨by simp only [resB, d0, d1, d2, d3, d4, d5, Bool.or_false, Bool.or_true], rfl⟩ | refine Qc List.take_length (.keep (.v _)) ⟨by simp only [resB, d0, d1, d2, d3, d4, d5, Bool.or_false, Bool.or_true], rfl⟩
      | false =>
       refine Qh Tryz.func88 rfl Tryz.call88 Tryz.ntmps88 (congrArg Array.toList Tryz.results88) (by simp) ?_
       iterate 3 (try (first | (((with_reducible refine Qa fun K E hK hE => ?_)); simp -implicitDefEqProofs only [Q4, Q2, Qf, OpW, aop, AS.ev, Q6, Xq, Nat.reduceLT]) | (with_reducible refine Qd fun K hK => ?_) | ((with_reducible refine hK _ ?_); clear hK)))
       (with_reducible refine Qk fun K E hK hE => ?_)
       (try simp only [Qqn]); refine QE 4 (fun K1 hK1 => ?_); simp -implicitDefEqProofs only [Qe, Qf, OpW, aop, undef, AS.ev, Qv, ↓reduceIte, aBin, d0, seval]; refine hK1 _ ?_; clear hK1
       (try simp only [QpV, Qp3]); refine QE 4 (fun K1 hK1 => ?_); simp -implicitDefEqProofs only [Qe, Qf, OpW, aop, undef, AS.ev, Qv, ↓reduceIte, aBin, d1, seval]; refine hK1 _ ?_; clear hK1
       (try simp only [QpV, Qp3]); refine QE 4 (fun K1 hK1 => ?_); simp -implicitDefEqProofs only [Qe, Qf, OpW, aop, undef, AS.ev, Qv, ↓reduceIte, aBin, d2, seval]; refine hK1 _ ?_; clear hK1
       (try simp only [QpV, Qp3]); refine QE 4 (fun K1 hK1 => ?_); simp -implicitDefEqProofs only [Qe, Qf, OpW, aop, undef, AS.ev, Qv, ↓reduceIte, aBin, d3, seval]; refine hK1 _ ?_; clear hK1
       (try simp only [QpV, Qp3]); refine QE 4 (fun K1 hK1 => ?_); simp -implicitDefEqProofs only [Qe, Qf, OpW, aop, undef, AS.ev, Qv, ↓reduceIte, aBin, d4, seval]; refine hK1 _ ?_; clear hK1
       (try simp only [QpV, Qp3])
       simp -implicitDefEqProofs only [Qe, Qf, OpW, aop, AS.ev, ↓reduceIte, aBin, d5, seval]
       repeat (first | (with_reducible (first | refine Qj ?_ | refine Qb ?_)) | ((with_reducible refine hK _ ?_); clear hK))
       simp only [QD, Ql, Qr, upd, ↓reduceIte, QpS, QpW]; first | refine Qc (htake _ _) (.keep (.v _)) ⟨by simp only [resB, d0, d1, d2, d3, d4, d5, Bool.or_false], rfl⟩ | refine Qc List.take_length (.keep (.v _)) ⟨by simp only [resB, d0, d1, d2, d3, d4, d5, Bool.or_false], rfl⟩
def i64 (n : Int) : Prop := -9223372036854775808 ≤ n ∧ n ≤ 9223372036854775807
mutual
def T.ok : T → Prop
 | .mk k i n l => i64 k ∧ i64 i ∧ n.size ≤ 9223372036854775807 ∧ oks l
def oks : List T → Prop
 | [] => True
 | t :: l => t.ok ∧ oks l
end
theorem T.ok_eq (t : T) : t.ok ↔ i64 t.kind ∧ i64 t.int ∧ t.name.size ≤ 9223372036854775807 ∧ oks t.args := by cases t; simp only [T.ok, T.kind, T.int, T.name, T.args]
theorem QbL : ∀ {l : List T} {k : Nat} (h : k < l.length), oks l → (l[k]).ok
 | t :: l, 0, _, h => h.1
 | t :: l, k + 1, h, ho => QbL (l := l) (by simpa using h) ho.2
theorem T.Qo7 (t : T) : t.av = .agg [.i t.kind, .i t.int, .v (.string t.name), .sl 4 (avs t.args) none] := by cases t; simp only [T.av, T.kind, T.int, T.name, T.args]
theorem Qj9 (P : Program) (t : TypeId) (xo yo : Operand) (a : Int) : pv P (do eqGuard .quo t xo yo (.int .i64 a) (.int .i64 8); binOp .quo t (.int .i64 a) (.int .i64 8)) = some (.int .i64 (IntKind.i64.wrap (a.tdiv 8))) := rfl
def weighs (w : List T → Int → Int) : List T → Int → Int
 | [], n => n
 | t :: l, n => if n < 0 then n else weighs w l (w t.args (n - 1 - (t.name.size / 8 : Nat)))
def weigh : Nat → List T → Int → Int
 | 0, _, _ => -1
 | d + 1, l, n => if (l.length : Int) > n then -1 else weighs (weigh d) l n
theorem Qcm (w : List T → Int → Int) (hw : ∀ l n, -1 ≤ w l n ∧ (w l n ≤ n ∨ w l n = -1)) : ∀ (l : List T) (n : Int), -1 ≤ n → -1 ≤ weighs w l n ∧ weighs w l n ≤ n
 | [], n, h => ⟨h, Int.le_refl _⟩
 | t :: l, n, h => by
  simp only [weighs]
  split
  ·exact ⟨h, Int.le_refl _⟩
  ·obtain ⟨h1, h2⟩ := hw t.args (n - 1 - (t.name.size / 8 : Nat))
   obtain ⟨h3, h4⟩ := Qcm w hw l _ h1
   refine ⟨h3, ?_⟩
   omega
theorem ZT : ∀ (d : Nat) (l : List T) (n : Int), -1 ≤ weigh d l n ∧ (weigh d l n ≤ n ∨ weigh d l n = -1)
 | 0, l, n => ⟨Int.le_refl _, .inr rfl⟩
 | d + 1, l, n => by
  simp only [weigh]
  split
  ·exact ⟨Int.le_refl _, .inr rfl⟩
  ·obtain ⟨h1, h2⟩ := Qcm (weigh d) (ZT d) l n (by omega)
   exact ⟨h1, .inl h2⟩
theorem Qew (w : List T → Int → Int) (hb : ∀ l n, -1 ≤ w l n) (hw : ∀ l n, 0 ≤ w l n → (ndsL l : Int) + w l n ≤ n) : ∀ (l : List T) (n : Int), 0 ≤ weighs w l n → (ndsL l : Int) + weighs w l n ≤ n
 | [], n, h => by simp [weighs, ndsL]
 | t :: l, n, h => by
  simp only [weighs] at h ⊢
  split at h
  ·omega
  ·rename_i hn
   rw [if_neg hn]
   have h1 := Qew w hb hw l _ h
   have h2 := hw t.args (n - 1 - (t.name.size / 8 : Nat)) (by
    rcases Int.lt_or_le (w t.args (n - 1 - (t.name.size / 8 : Nat))) 0 with h0 | h0
    ·exfalso
     have : weighs w l (w t.args (n - 1 - (t.name.size / 8 : Nat))) = w t.args (n - 1 - (t.name.size / 8 : Nat)) := by
      cases l with
      | nil => rfl
      | cons a l => simp only [weighs, if_pos h0]
     omega
    ·exact h0)
   have h3 := T.Qo1 t
   simp only [ndsL]
   omega
theorem QcR : ∀ (d : Nat) (l : List T) (n : Int), 0 ≤ weigh d l n → (ndsL l : Int) + weigh d l n ≤ n
 | 0, l, n, h => by simp only [weigh] at h; omega
 | d + 1, l, n, h => by
  simp only [weigh] at h ⊢
  split at h
  ·omega
  ·rename_i hn
   rw [if_neg hn]
   exact Qew (weigh d) (fun l n => (ZT d l n).1) (QcR d) l n h
theorem QhH (w : List T → Int → Int) {r : List T} {n : Int} (h : n < 0) : weighs w r n = n := by
 cases r with
 | nil => rfl
 | cons a r => simp only [weighs, if_pos h]
theorem Qb0 : ∀ (d : Nat), d ≤ 64 → ∀ (l : List T) (n : Int), oks l → -2305843009213693952 ≤ n → n ≤ 1000000 → Pure Tryz.prog 68 [.sl 4 (avs l) none, .i n, .i d] (.i (weigh d l n))
 | 0, _, l, n, ho, hn1, hn2 => by
  intro h
  refine Qh Tryz.func68 rfl Tryz.call68 Tryz.ntmps68 (congrArg Array.toList Tryz.results68) (by simp) ?_
  repeat (first | (((with_reducible refine Qa fun K E hK hE => ?_)); simp -implicitDefEqProofs only [Qe, Qf, OpW, aop, undef, AS.ev, Qv, ↓reduceIte, aBin, seval]) | (with_reducible (first | refine Qd fun K hK => ?_ | refine Qj ?_ | refine Qq ?_)) | ((with_reducible refine hK _ ?_); clear hK) | (refine Qg rfl ?_; simp only [↓reduceIte]))
  simp only [QD, Ql, Qr, upd, ↓reduceIte, QpS, QpW]; first | refine Qc (htake _ _) (.keep (.v _)) ⟨rfl, rfl⟩ | refine Qc List.take_length (.keep (.v _)) ⟨rfl, rfl⟩
 | d + 1, hd, l, n, ho, hn1, hn2 => by
  intro h
  have hd0 : (((d + 1 : Nat) : Int) == 0) = false := by rw [beq_eq_false_iff_ne]; omega
  have hwd : IntKind.i64.wrap (((d + 1 : Nat) : Int) - 1) = (d : Int) := by rw [Xp (by omega)]; omega
  by_cases hc : (l.length : Int) > n
  ·refine Qh Tryz.func68 rfl Tryz.call68 Tryz.ntmps68 (congrArg Array.toList Tryz.results68) (by simp) ?_
   repeat (first | (((with_reducible refine Qa fun K E hK hE => ?_)); simp -implicitDefEqProofs only [Qe, Qf, OpW, aop, undef, AS.ev, Qv, ↓reduceIte, aBin, aLen, goInt, un29, hd0, hc, seval]) | (with_reducible (first | refine Qd fun K hK => ?_ | refine Qj ?_ | refine Qq ?_)) | ((with_reducible refine hK _ ?_); clear hK) | (refine Qg rfl ?_; simp only [↓reduceIte]))
   simp only [QD, Ql, Qr, upd, ↓reduceIte, QpS, QpW]; first | refine Qc (htake _ _) (.keep (.v _)) ⟨by simp only [weigh, if_pos hc], rfl⟩ | refine Qc List.take_length (.keep (.v _)) ⟨by simp only [weigh, if_pos hc], rfl⟩
  ·have hw : weigh (d + 1) l n = weighs (weigh d) l n := by simp only [weigh, if_neg hc]
   refine Qh Tryz.func68 rfl Tryz.call68 Tryz.ntmps68 (congrArg Array.toList Tryz.results68) (by simp) ?_
   repeat (first | (((with_reducible refine Qa fun K E hK hE => ?_)); simp -implicitDefEqProofs only [Qe, Qf, OpW, aop, undef, AS.ev, Qv, ↓reduceIte, aBin, aLen, goInt, un29, hd0, hc, seval]) | (with_reducible (first | refine Qd fun K hK => ?_ | refine Qi ?_ | refine Qn ?_ | refine Qb ?_)) | ((with_reducible refine hK _ ?_); clear hK) | (refine Qg rfl ?_; simp only [↓reduceIte, QpQ]))
   obtain ⟨I, hI⟩ : ∃ I : Nat → AS → Prop, I = fun m' s => ∃ (j : Nat) (a : Int), m' = l.length - j ∧ j ≤ l.length ∧ -1 ≤ a ∧ a ≤ n ∧ weighs (weigh d) l n = weighs (weigh d) (l.drop j) a ∧ s.tm 0 = .sl 4 (avs l) none ∧ s.tm 1 = .i a ∧ s.tm 2 = .i ((d + 1 : Nat) : Int) ∧ s.tm 7 = .i j ∧ s.h = h := ⟨_, rfl⟩; refine QI I ?_ (m := l.length) ?_
   ·intro m' s hs; rw [hI] at hs; obtain ⟨tm, hp⟩ := s; dsimp only at hs; obtain ⟨j, a, rfl, hj, ha1, ha2, he, t0, t1, t2, t7, rfl⟩ := hs
    by_cases hlt : j < l.length
    ·rw [List.drop_eq_getElem_cons hlt] at he
     by_cases ha : a ≥ 0
     ·obtain ⟨o1, o2, o3, o4⟩ := (T.ok_eq _).1 (QbL hlt ho)
      simp only [weighs, if_neg (show ¬ a < 0 by omega)] at he
      have hq : ((l[j].name.size : Int)).tdiv 8 = ((l[j].name.size / 8 : Nat) : Int) := by
       rw [Int.tdiv_eq_ediv_of_nonneg (by omega)]; omega
      have hw1 : IntKind.i64.wrap (a - 1) = a - 1 := Xp (by omega)
      have hw2 : IntKind.i64.wrap (((l[j].name.size / 8 : Nat) : Int)) = ((l[j].name.size / 8 : Nat) : Int) := Xp (by omega)
      have hw3 : IntKind.i64.wrap (a - 1 - ((l[j].name.size / 8 : Nat) : Int)) = a - 1 - ((l[j].name.size / 8 : Nat) : Int) := Xp (by omega)
      have hr := Qb0 d (by omega) l[j].args (a - 1 - ((l[j].name.size / 8 : Nat) : Int)) o4 (by omega) (by omega)
      have hrb := ZT d l[j].args (a - 1 - ((l[j].name.size / 8 : Nat) : Int))
      have hsl := fun s => QbI Tryz.prog 9 3 (by kernel_rfl) s
      repeat (first | ((first | (with_reducible (first | refine Qa fun K E hK hE => ?_ | refine Qk fun K E hK hE => ?_ | refine Qz hr ?_)) | (refine QG (id := 6) [(0, 0), (1, 0), (2, 0), (3, 0), (4, 0), (5, 0), (6, 0), (7, 0), (8, 0), (9, 0), (10, 0), (11, 0), (12, 0), (13, 0), (14, 0), (15, 0), (16, 0), (17, 1), (18, 0)] mixed (by kernel_rfl) fun K hK => ?_)); simp -implicitDefEqProofs only [Qe, Qf, OpW, aop, AS.ev, ↓reduceIte, Qm, QA, QB, Qt, aBin, aLen, goInt, ti9, ti29, ei29, un29, Xl, Xc, t0, t1, t2, t7, hlt, ha, Q3 hlt, hsl, Qj9, hq, hw1, hw2, hw3, hwd, seval]) | (with_reducible (first | refine Qd fun K hK => ?_ | refine Qi ?_ | refine Qn ?_ | refine Qb ?_ | refine Qo ?_)) | ((with_reducible refine hK _ ?_); clear hK) | (refine Qg rfl ?_; simp only [↓reduceIte]))
      refine QV.mk (m' := l.length - (j + 1)) (by omega) ?_
      rw [hI]
      refine ⟨j + 1, _, rfl, hlt, ?_, ?_, he, t0, rfl, t2, ?_, rfl⟩
      ·exact hrb.1
      ·omega
      ·simp only [upd, ↓reduceIte]
       rw [QP (by omega)]
     ·have he2 : weigh (d + 1) l n = a := by rw [hw, he, QhH _ (by omega)]
      repeat (first | (((with_reducible refine Qa fun K E hK hE => ?_)); simp -implicitDefEqProofs only [Qe, Qf, OpW, aop, AS.ev, ↓reduceIte, aBin, aLen, goInt, un29, t0, t1, t7, hlt, ha, seval]) | (with_reducible (first | refine Qd fun K hK => ?_ | refine Qj ?_ | refine QC ?_ | refine Qb ?_ | refine Qw ?_ | refine Qy ?_)) | ((with_reducible refine hK _ ?_); clear hK) | (clear hK; (with_reducible refine hK _ ?_); clear hK) | (refine Qg rfl ?_; simp only [↓reduceIte, QpQ]))
      simp only [QD, Ql, Qr, upd, ↓reduceIte, QpS, QpW]
      exact Qc List.take_length (.keep (.v _)) ⟨by rw [he2], rfl⟩
    ·have hjl : j = l.length := by omega
     have he2 : weigh (d + 1) l n = a := by rw [hw, he, hjl, List.drop_length]; rfl
     repeat (first | (((with_reducible refine Qa fun K E hK hE => ?_)); simp -implicitDefEqProofs only [Qe, Qf, OpW, aop, undef, AS.ev, ↓reduceIte, aBin, aLen, goInt, un29, t0, t1, t7, hlt, seval]) | (with_reducible (first | refine Qd fun K hK => ?_ | refine Qj ?_ | refine QC ?_ | refine Qb ?_ | refine Qw ?_ | refine Qy ?_)) | ((with_reducible refine hK _ ?_); clear hK) | (clear hK; (with_reducible refine hK _ ?_); clear hK) | (refine Qg rfl ?_; simp only [↓reduceIte, QpQ]))
     simp only [QD, Ql, Qr, upd, ↓reduceIte, QpS, QpW]
     exact Qc List.take_length (.keep (.v _)) ⟨by rw [he2], rfl⟩
   ·rw [hI]
    exact ⟨0, n, by omega, Nat.zero_le _, by omega, Int.le_refl _, by rw [List.drop_zero], rfl, rfl, rfl, rfl, rfl⟩
theorem Qj5 {l : List T} {most : Int} (h : ¬ weigh 64 l most < 0) : (ndsL l : Int) ≤ most := by
 have := QcR 64 l most (by omega)
 omega
def G.ok (g : G) : Prop := i64 g.op ∧ g.name.size ≤ 9223372036854775807 ∧ oks g.args
def Y6 : List G → Int → Int
 | [], n => n
 | g :: l, n => if n < 0 then n else Y6 l (weigh 64 g.args (n - 1 - (g.name.size / 8 : Nat)))
def ndsG : List G → Nat
 | [] => 0
 | g :: l => ndsL g.args + ndsG l
theorem Qgp : ∀ (l : List G) (n : Int), 0 ≤ Y6 l n → (ndsG l : Int) ≤ n
 | [], n, h => by simpa [Y6, ndsG] using h
 | g :: l, n, h => by
  simp only [Y6] at h
  split at h
  ·omega
  ·have h1 := Qgp l _ h
   have h2 := QcR 64 g.args (n - 1 - (g.name.size / 8 : Nat)) (by omega)
   simp only [ndsG]
   omega
theorem QhO {l : List G} {n : Int} (h : n < 0) : Y6 l n = n := by
 cases l with
 | nil => rfl
 | cons g l => simp only [Y6, if_pos h]
theorem QcX (l : List G) (n : Int) (ho : ∀ g ∈ l, g.ok) (hb : l.length ≤ 9223372036854775807) (hn1 : -1 ≤ n) (hn2 : n ≤ 1000000) : Pure Tryz.prog 29 [.sl 2 (vs G.atom l) none, .i n] (.b (decide (Y6 l n < 0))) := by
 intro h
 refine Qh Tryz.func29 rfl Tryz.call29 Tryz.ntmps29 (congrArg Array.toList Tryz.results29) (by simp) ?_
 repeat (first | (((with_reducible refine Qa fun K E hK hE => ?_)); simp -implicitDefEqProofs only [Qe, Qf, OpW, aop, AS.ev, Nat.reduceLT]) | (with_reducible (first | refine Qd fun K hK => ?_ | refine Qi ?_)) | ((with_reducible refine hK _ ?_); clear hK))
 obtain ⟨I, hI⟩ : ∃ I : Nat → AS → Prop, I = fun m' s => ∃ (j : Nat) (a : Int), m' = l.length - j ∧ j ≤ l.length ∧ -1 ≤ a ∧ a ≤ n ∧ Y6 l n = Y6 (l.drop j) a ∧ s.tm 0 = .sl 2 (vs G.atom l) none ∧ s.tm 1 = .i a ∧ s.tm 5 = .i j ∧ s.h = h := ⟨_, rfl⟩; refine QI I ?_ (m := l.length) ?_
 ·intro m' s hs; rw [hI] at hs; obtain ⟨tm, hp⟩ := s; dsimp only at hs; obtain ⟨j, a, rfl, hj, ha1, ha2, he, t0, t1, t5, rfl⟩ := hs
  by_cases hlt : j < l.length
  ·rw [List.drop_eq_getElem_cons hlt] at he
   by_cases ha : a ≥ 0
   ·obtain ⟨_, o3, o4⟩ := ho _ (List.getElem_mem hlt)
    simp only [Y6, if_neg (show ¬ a < 0 by omega)] at he
    have hq : ((l[j].name.size : Int)).tdiv 8 = ((l[j].name.size / 8 : Nat) : Int) := by
     rw [Int.tdiv_eq_ediv_of_nonneg (by omega)]; omega
    have hw1 : IntKind.i64.wrap (a - 1) = a - 1 := Xp (by omega)
    have hw2 : IntKind.i64.wrap (((l[j].name.size / 8 : Nat) : Int)) = ((l[j].name.size / 8 : Nat) : Int) := Xp (by omega)
    have hw3 : IntKind.i64.wrap (a - 1 - ((l[j].name.size / 8 : Nat) : Int)) = a - 1 - ((l[j].name.size / 8 : Nat) : Int) := Xp (by omega)
    have hr := Qb0 64 (by omega) l[j].args (a - 1 - ((l[j].name.size / 8 : Nat) : Int)) o4 (by omega) (by omega)
    have hrb := ZT 64 l[j].args (a - 1 - ((l[j].name.size / 8 : Nat) : Int))
    have hsl := fun s => QbI Tryz.prog 9 3 (by kernel_rfl) s
    have h64 : ((64 : Nat) : Int) = 64 := rfl
    rw [h64] at hr
    repeat (first | ((first | (with_reducible (first | refine Qa fun K E hK hE => ?_ | refine Qk fun K E hK hE => ?_ | refine Qz hr ?_)) | (refine QG (id := 4) [(0, 0), (1, 0), (2, 0), (3, 0), (4, 0), (5, 0), (6, 0), (7, 0), (8, 0), (9, 0), (10, 0), (11, 0), (12, 0), (13, 0), (14, 0), (15, 1), (16, 0)] mixed (by kernel_rfl) fun K hK => ?_)); simp -implicitDefEqProofs only [Qe, Qf, OpW, aop, AS.ev, ↓reduceIte, Qm, QA, QB, Qt, aBin, aLen, goInt, ti9, ti29, ei30, un30, YQ, YK, t0, t1, t5, hlt, ha, QR, XR G.atom hlt, G.atom, hsl, Qj9, hq, hw1, hw2, hw3, seval]) | (with_reducible (first | refine Qd fun K hK => ?_ | refine Qi ?_ | refine Qn ?_ | refine Qb ?_ | refine Qo ?_)) | ((with_reducible refine hK _ ?_); clear hK) | (refine Qg rfl ?_; simp only [↓reduceIte]))
    refine QV.mk (m' := l.length - (j + 1)) (by omega) ?_
    rw [hI]
    refine ⟨j + 1, _, rfl, hlt, ?_, ?_, he, t0, rfl, ?_, rfl⟩
    ·exact hrb.1
    ·omega
    ·simp only [upd, ↓reduceIte]
     rw [QP (by omega)]
   ·have he2 : Y6 l n = a := by rw [he, QhO (by omega)]
    repeat (first | (((with_reducible refine Qa fun K E hK hE => ?_)); simp -implicitDefEqProofs only [Qe, Qf, OpW, aop, AS.ev, ↓reduceIte, aBin, aLen, goInt, un30, t0, t1, t5, hlt, ha, QR, seval]) | (with_reducible (first | refine Qd fun K hK => ?_ | refine Qj ?_ | refine QC ?_ | refine Qb ?_ | refine Qw ?_ | refine Qy ?_)) | ((with_reducible refine hK _ ?_); clear hK) | (clear hK; (with_reducible refine hK _ ?_); clear hK) | (refine Qg rfl ?_; simp only [↓reduceIte, QpQ]))
    simp only [QD, Ql, Qr, upd, ↓reduceIte, QpS, QpW]
    exact Qc List.take_length (.keep (.v _)) ⟨by rw [he2], rfl⟩
  ·have hjl : l.drop j = [] := List.drop_eq_nil_of_le (by omega)
   have he2 : Y6 l n = a := by rw [he, hjl]; rfl
   repeat (first | (((with_reducible refine Qa fun K E hK hE => ?_)); simp -implicitDefEqProofs only [Qe, Qf, OpW, aop, undef, AS.ev, ↓reduceIte, aBin, aLen, goInt, un30, t0, t1, t5, hlt, QR, seval]) | (with_reducible (first | refine Qd fun K hK => ?_ | refine Qj ?_ | refine QC ?_ | refine Qb ?_ | refine Qw ?_ | refine Qy ?_)) | ((with_reducible refine hK _ ?_); clear hK) | (clear hK; (with_reducible refine hK _ ?_); clear hK) | (refine Qg rfl ?_; simp only [↓reduceIte, QpQ]))
   simp only [QD, Ql, Qr, upd, ↓reduceIte, QpS, QpW]
   exact Qc List.take_length (.keep (.v _)) ⟨by rw [he2], rfl⟩
 ·rw [hI]
  exact ⟨0, n, by omega, Nat.zero_le _, hn1, Int.le_refl _, by rw [List.drop_zero], rfl, rfl, rfl, rfl⟩
theorem Ev.Qpp {c c' : Cx} (hev : Ev (c.cut 0) c') {B : Nat} (h : B < c.w.heap.size) : c'.w.heap[B]? = c.w.heap[B]? :=
 hev.frame B h fun ⟨id, b, hb, _⟩ => by simp [Cx.cut] at hb
theorem QiK {P : Program} {f : FuncId} {args : List AV} {s : Nat} {ty : TypeId} {xs : List AV} (hv : ∀ a ∈ flat xs, ∃ v, a = .v v) (hx : xs ≠ []) (ha : ∀ a ∈ args, Below 0 a)
  (H : Xf P f args [] fun o h' => ∃ tok, o = .ret (.sl s xs (some tok)) ∧ h'[tok]? = some (.grow ty s xs.length)) (h : AH) :
  Xf P f args h fun o h' => o = .ret (.arr h.length 0 xs.length) ∧ h' = h ++ [.cells ty s xs] := by
 refine ⟨H.1, fun F n c vals hF hs hh hvs => (H.2 F n (c.cut 0) vals hF (hs.cut (Nat.zero_le _) (by simp)) (by simp [Cx.cut]) ⟨hvs.1, fun j a u h1 h2 => (hvs.2 j a u h1 h2).cut (Nat.zero_le _) (ha a (List.mem_of_getElem? h1))⟩).mono ?_⟩
 rintro e w' ⟨o, c', ⟨tok, rfl, hg⟩, hev, hst, hw, hex⟩
 subst hh
 obtain ⟨x, rfl, hr⟩ := hex
 have hmem : ∀ {B : Nat}, B < c.w.heap.size → c'.w.heap[B]? = c.w.heap[B]? := fun h => hev.Qpp h
 cases hr with
 | slnil => exact absurd rfl hx
 | slzero => exact absurd rfl hx
 | sl _ _ _ B o cap fv hs' hcap hmax hc hr ht =>
  obtain ⟨_, _, h3⟩ := (ht tok rfl).2 _ _ _ hg
  obtain ⟨rfl, hρ, h4, h5, cur, hB, hsz⟩ := h3 rfl
  have hfresh : c.w.heap.size ≤ B := by
   rcases hev.fresh tok B _ (by simp [Cx.cut]) hg rfl hρ with h | ⟨i, _, _, _, h, _⟩
   ·exact h
   ·simp [Cx.cut] at h
  let c2 : Cx := { ρ := fun i => if i = c.h.length then some B else c.ρ i, h := c.h ++ [.cells ty s xs], w := c'.w }
  have hρ2 : ∀ {i : Nat}, i < c.h.length → c2.ρ i = c.ρ i := fun {i} h => by simp only [c2]; rw [if_neg (by omega)]
  have hρn : c2.ρ c.h.length = some B := by simp [c2]
  have get2 : ∀ {i : Nat} {b : AB}, c2.h[i]? = some b → (i < c.h.length ∧ c.h[i]? = some b) ∨ (i = c.h.length ∧ b = .cells ty s xs) := fun {i b} h => by
   have hlt := QF h
   simp only [c2, QqD, QpZ, Qp0] at h hlt
   by_cases hi : i < c.h.length
   ·rw [List.getElem?_append_left hi] at h; exact .inl ⟨hi, h⟩
   ·have e : i = c.h.length := by omega
    subst e
    rw [List.getElem?_append_right (Nat.le_refl _), Nat.sub_self] at h
    simp only [QpM, QpS] at h
    exact .inr ⟨rfl, h.symm⟩
  have hlt0 : ∀ {i B0 : Nat} {b : AB}, c.h[i]? = some b → b.live = true → c.ρ i = some B0 → B0 < c.w.heap.size := fun h1 h2 h3 => hs.lt h1 h2 h3
  have hev2 : Ev c c2 := by
   refine ⟨hev.os, hev.tape, hev.output, hev.size, by simp [c2], fun B0 h1 _ => hmem h1, fun id b hb => ?_, fun id B0 b h1 h2 hl h3 => ?_⟩
   ·have hlt := QF hb
    have hr2 := hρ2 hlt
    refine ⟨b, by simp only [c2]; rw [List.getElem?_append_left hlt]; exact hb, ?_⟩
    have hm : ∀ {B0 : Nat} {o : Obj}, c.w.heap[B0]? = some o → c2.w.heap[B0]? = some o := fun {B0 o} h => (hmem (Array.getElem?_eq_some_iff.1 h).1).trans h
    cases b with
    | cells ty s xs => exact .inr ⟨xs, rfl, hr2, fun B cur hρ hc => ⟨cur, hm hc, rfl⟩⟩
    | grow e s n => exact .inr ⟨n, rfl, Nat.le_refl _, fun _ => hr2, fun B hB => .inl (hr2 ▸ hB), fun B cur hρ hc => ⟨cur, hm hc, rfl, fun _ _ => rfl⟩⟩
    | map es => exact ⟨es, rfl, hr2⟩
    | loop i => exact ⟨i, rfl, hr2⟩
    | iter s p => exact ⟨p, rfl, hr2⟩
    | glob g cs ty fr => exact ⟨rfl, hr2, fun B hρ => hmem (hlt0 hb rfl hρ)⟩
    | dead => rfl
    | gone => rfl
   ·rcases get2 h2 with ⟨h4, _⟩ | ⟨rfl, _⟩
    ·omega
    ·rw [hρn] at h3; cases h3; exact .inl hfresh
  have hst2 : St c2 := by
   refine ⟨fun id b hb => ?_, fun i j a b B0 hi hj hla hlb hρi hρj => ?_⟩
   ·rcases get2 hb with ⟨h1, h2⟩ | ⟨rfl, rfl⟩
    ·exact (hs.blocks id b h2).ev hs hev2 (hρ2 h1) fun B0 hl hρ => hmem (hlt0 h2 hl hρ)
    ·refine ⟨B, cur, hρn, hB, hs', fun j a hj => ?_⟩
     obtain ⟨h1, h2⟩ := hc j a hj
     have h3 := hr j a hj
     obtain ⟨v, rfl⟩ := hv a (List.mem_of_getElem? hj)
     refine ⟨fv j, ?_, h2, ?_⟩
     ·have := h1.1
      rwa [Nat.zero_add, Xn hB] at this
     ·cases h3; exact .v _
   ·rcases get2 hi with ⟨h1, h2⟩ | ⟨rfl, rfl⟩
    ·rcases get2 hj with ⟨h3, h4⟩ | ⟨rfl, rfl⟩
     ·exact hs.inj i j a b B0 h2 h4 hla hlb (hρ2 h1 ▸ hρi) (hρ2 h3 ▸ hρj)
     ·rw [hρn] at hρj; cases hρj
      have := hlt0 h2 hla (hρ2 h1 ▸ hρi)
      omega
    ·rcases get2 hj with ⟨h3, h4⟩ | ⟨rfl, rfl⟩
     ·rw [hρn] at hρi; cases hρi
      have := hlt0 h4 hlb (hρ2 h3 ▸ hρj)
      omega
     ·rfl
  refine ⟨.ret (.arr c.h.length 0 xs.length), c2, ⟨rfl, rfl⟩, hev2, hst2, hw, _, rfl, .arr _ _ _ _ (by simp [c2]) rfl fun ty' s' xs' hg' => ?_⟩
  rcases get2 hg' with ⟨h, _⟩ | ⟨_, h⟩
  ·omega
  ·cases h
   exact ⟨B, cap, hρn, by rw [Nat.zero_mul], hcap, hmax, cur, hB, by rw [Nat.zero_add, hsz]; exact Nat.le_refl _⟩
theorem Za {P : Program} {f : FuncId} {args : List AV} {h h1 : AH} {r : AV} {C : AOut → AH → Prop} (H : Xf P f args h fun o h' => o = .ret r ∧ h' = h1) (k : C (.ret r) h1) : FunW P (.fn (.func f) [] []) args h C := by
 refine FunW.fn ?_
 rw [List.nil_append, List.append_nil]
 exact H.mono (by rintro _ _ ⟨rfl, rfl⟩; exact k)
theorem X2 {σ : Type} {H : σ → AH} {m : Nat} (hm : ∀ s, (H s).length = m) (hH : ∀ s s' (i : Nat) b, (H s')[i]? = some b → (H s)[i]? = some b ∨ b.Below m) {s s2 : σ} {L own : AH} {r r' : AV} {Q : AV → AH → Prop}
  (hf : Frz (H s2 ++ (L ++ own)) (m + L.length) r r') (hq : Q r' (H s2 ++ L)) : Leaves (H s ++ L) (H s2 ++ (L ++ own)) r Q := by
 have ht : (H s2 ++ (L ++ own)).take (m + L.length) = H s2 ++ L := by
  rw [← List.append_assoc, ← hm s2, ← List.length_append, List.take_left]
 refine .inl ⟨m + L.length, r', by rw [List.length_append, hm]; exact Nat.le_refl _, by simp [hm], .inr fun i b hb => ?_, hf, by rw [ht]; exact hq⟩
 rw [ht] at hb
 rcases Nat.lt_or_ge i m with hi | hi
 ·rw [List.getElem?_append_left (by rw [hm]; exact hi)] at hb
  rcases hH s s2 i b hb with h | h
  ·exact .inl (by rw [List.getElem?_append_left (by rw [hm]; exact hi)]; exact h)
  ·exact .inr (h.mono (by omega))
 ·rw [List.getElem?_append_right (by rw [hm]; exact hi), hm] at hb
  exact .inl (by rw [List.getElem?_append_right (by rw [hm]; exact hi), hm]; exact hb)
theorem QfE (t : T) : Pure Tryz.prog 156 [t.av] (.sl 4 (avs t.uses) none) := by
 intro h
 refine Qh Tryz.func156 rfl Tryz.call156 Tryz.ntmps156 (congrArg Array.toList Tryz.results156) (by simp) ?_
 by_cases hk : t.kind = 2
 ·have hb : (t.kind == 2) = true := by simpa using hk
  repeat (first | (((with_reducible refine Qa fun K E hK hE => ?_)); simp -implicitDefEqProofs only [Qe, Qf, OpW, aop, undef, AS.ev, Qv, AV.QoY, ↓reduceIte, Qm, QA, QB, aBin, ti3, ti29, QX, Xc, hb, seval]) | (with_reducible (first | refine Qd fun K hK => ?_ | refine Qj ?_ | refine Qq ?_)) | ((with_reducible refine hK _ ?_); clear hK) | (refine Qg rfl ?_; simp only [↓reduceIte]))
  simp only [QD, Ql, Qr, upd, ↓reduceIte, QpS, QpW]
  refine Qc (htake _ _) (.keep (X0 _ _)) ⟨by rw [T.uses, if_pos hk], rfl⟩
 ·have hb : (t.kind == 2) = false := by simpa using hk
  repeat (first | (((with_reducible refine Qa fun K E hK hE => ?_)); simp -implicitDefEqProofs only [Qe, Qf, OpW, aop, undef, AS.ev, Qv, AV.QoY, ↓reduceIte, Qm, QA, QB, aBin, ti3, QX, hb, seval]) | (with_reducible (first | refine Qd fun K hK => ?_ | refine Qj ?_ | refine Qn ?_ | refine Qb ?_)) | ((with_reducible refine hK _ ?_); clear hK) | (refine Qg rfl ?_; simp only [↓reduceIte, QpQ]))
  simp only [QD, Ql, Qr, upd, ↓reduceIte, QpS, QpW]
  refine Qc (htake _ _) (.nil 4) ⟨by rw [T.uses, if_neg hk]; rfl, rfl⟩
mutual
def T.walk {σ : Type} (g : σ → Int → Bool × σ) : σ → T → Bool × σ
 | s, .mk k i _ l => if k = 1 then g s i else if k = 2 then walks g s l else (true, s)
def walks {σ : Type} (g : σ → Int → Bool × σ) : σ → List T → Bool × σ
 | s, [] => (true, s)
 | s, t :: l => if (T.walk g s t).1 = true then walks g (T.walk g s t).2 l else (false, (T.walk g s t).2)
end
theorem T.walk_eq {σ : Type} (g : σ → Int → Bool × σ) (s : σ) (t : T) : T.walk g s t = if t.kind = 1 then g s t.int else walks g s t.uses := by
 cases t with | mk k i n l =>
 show T.walk g s (.mk k i n l) = if k = 1 then g s i else walks g s (if k = 2 then l else [])
 simp only [T.walk]
 by_cases h1 : k = 1
 ·rw [if_pos h1, if_pos h1]
 ·rw [if_neg h1, if_neg h1]
  by_cases h2 : k = 2
  ·rw [if_pos h2, if_pos h2]
  ·rw [if_neg h2, if_neg h2]; simp only [walks]
structure VisB (P : Program) {σ : Type} (fv : AV) (H : σ → AH) (g : σ → Int → Bool × σ) (J : σ → Nat → Prop) (m : Nat) : Prop where
 len : ∀ s, (H s).length = m
 vis : ∀ s n L, J s 1 → i64 n → FunW P fv [.i n] (H s ++ L) fun o h' => o = .ret (.v (.bool (g s n).1)) ∧ h' = H (g s n).2 ++ L
 step : ∀ s n j, J s (j + 1) → J (g s n).2 j
 less : ∀ s j j', J s j → j' ≤ j → J s j'
 old : ∀ s s' (i : Nat) b, (H s')[i]? = some b → (H s)[i]? = some b ∨ b.Below m
theorem Qkv {P : Program} {σ : Type} {fv : AV} {H : σ → AH} {g : σ → Int → Bool × σ} {J : σ → Nat → Prop} {m : Nat} (V : VisB P fv H g J m) {s : σ} {n : Int} (hj : J s 1) (hn : i64 n) {L : AH} {C : AOut → AH → Prop}
  (k : C (.ret (.v (.bool (g s n).1))) (H (g s n).2 ++ L)) : FunW P fv [.i n] (H s ++ L) C :=
 (V.vis s n L hj hn).mono (by rintro _ _ ⟨rfl, rfl⟩; exact k)
mutual
theorem T.Qo6 {σ : Type} {g : σ → Int → Bool × σ} {J : σ → Nat → Prop} (hs : ∀ s n j, J s (j + 1) → J (g s n).2 j) (hl : ∀ s j j', J s j → j' ≤ j → J s j') (j : Nat) : ∀ (s : σ) (t : T), J s (t.nds + j) → J (T.walk g s t).2 j
 | s, .mk k i n l, h => by
  simp only [T.nds] at h
  simp only [T.walk]
  split
  ·exact hs s i j (hl s _ _ h (by omega))
  ·split
   ·exact QbN hs hl j s l (hl s _ _ h (by omega))
   ·exact hl s _ _ h (by omega)
theorem QbN {σ : Type} {g : σ → Int → Bool × σ} {J : σ → Nat → Prop} (hs : ∀ s n j, J s (j + 1) → J (g s n).2 j) (hl : ∀ s j j', J s j → j' ≤ j → J s j') (j : Nat) : ∀ (s : σ) (l : List T), J s (ndsL l + j) → J (walks g s l).2 j
 | s, [], h => by simp only [ndsL, QpY] at h; exact h
 | s, t :: l, h => by
  simp only [ndsL] at h
  simp only [walks]
  have := T.Qo6 hs hl (ndsL l + j) s t (by rw [← Nat.add_assoc]; exact h)
  split
  ·exact QbN hs hl j _ l this
  ·exact hl _ _ _ this (by omega)
end
theorem Zf (t : T) : ndsL t.uses ≤ ndsL t.args := by
 unfold T.uses
 split
 ·exact Nat.le_refl _
 ·simp [ndsL]
theorem QmJ {t : T} (h : oks t.args) : oks t.uses := by
 unfold T.uses
 split
 ·exact h
 ·trivial
theorem Qiw {σ : Type} {fv : AV} {H : σ → AH} {g : σ → Int → Bool × σ} {J : σ → Nat → Prop} {m : Nat} (V : VisB Tryz.prog fv H g J m) : ∀ n, n ≤ 1000000 → ∀ (t : T) (u : σ) (L : AH), t.nds ≤ n → t.ok → J u t.nds →
  Xf Tryz.prog 146 [t.av, fv] (H u ++ L) fun o h' => o = .ret (.v (.bool (T.walk g u t).1)) ∧ h' = H (T.walk g u t).2 ++ L
 | 0, _, t, _, _, hn, _, _ => by have := T.Qo1 t; omega
 | n + 1, hb, t, u, L, hn, ho, hJ => by
  have e := T.walk_eq g u t
  have hnd := T.Qo1 t
  have hm := V.len
  obtain ⟨o1, o2, o3, o4⟩ := (T.ok_eq t).1 ho
  have gk : ∀ (u : σ) (L : AH) (k : Nat), (H u ++ L)[m + k]? = L[k]? := fun u L k => by rw [← hm u]; exact hget _ _ _
  have sk : ∀ (u : σ) (L : AH) (k : Nat) (b : AB), (H u ++ L).set (m + k) b = H u ++ L.set k b := fun u L k b => by rw [← hm u]; exact hset _ _ _ _
  by_cases h1 : t.kind = 1
  ·have b1 : (t.kind == 1) = true := by simpa using h1
   rw [if_pos h1] at e
   have hJ1 : J u 1 := V.less u _ _ hJ (by omega)
   refine Qh Tryz.func146 rfl Tryz.call146 Tryz.ntmps146 (congrArg Array.toList Tryz.results146) (by simp) ?_
   repeat (first | ((first | (with_reducible (first | refine Qa fun K E hK hE => ?_ | refine Qkv V hJ1 o2 ?_))); simp -implicitDefEqProofs only [Qe, Qf, OpW, QK, aop, undef, AS.ev, Qv, AV.QoY, ↓reduceIte, Qm, QA, QB, aBin, ti3, QX, Q9, b1, hm, gk, seval]) | (with_reducible (first | refine Qd fun K hK => ?_ | refine Qj ?_ | refine Qq ?_)) | ((with_reducible refine hK _ ?_); clear hK) | (refine Qg rfl ?_; simp only [↓reduceIte]))
   simp only [QD, Ql, Qr, upd, ↓reduceIte, QpS, QpW]
   exact X2 V.len V.old (.keep (.v _)) ⟨by rw [e], by rw [e]⟩
  ·have b1 : (t.kind == 1) = false := by simpa using h1
   rw [if_neg h1] at e
   have hc := QfE t
   have hu := Zf t
   have hlu := QW t.uses
   have hou := QmJ o4
   refine Qh Tryz.func146 rfl Tryz.call146 Tryz.ntmps146 (congrArg Array.toList Tryz.results146) (by simp) ?_
   repeat (first | ((first | (with_reducible (first | refine Qa fun K E hK hE => ?_ | refine Qp hc ?_))); simp -implicitDefEqProofs only [Qe, Qf, OpW, QK, aop, undef, AS.ev, Qv, AV.QoY, ↓reduceIte, Qm, QA, QB, aBin, aLen, goInt, ti3, un29, ti41, QX, b1, hm, gk, seval]) | (with_reducible (first | refine Qd fun K hK => ?_ | refine Qi ?_ | refine Qn ?_ | refine Qb ?_)) | ((with_reducible refine hK _ ?_); clear hK) | (refine Qg rfl ?_; simp only [↓reduceIte, QpQ]))
   obtain ⟨I, hI⟩ : ∃ I : Nat → AS → Prop, I = fun m' s => ∃ (j : Nat) (u' : σ) (M : AH), m' = t.uses.length - j ∧ j ≤ t.uses.length ∧ walks g u t.uses = walks g u' (t.uses.drop j) ∧ J u' (ndsL (t.uses.drop j)) ∧ s.tm 1 = fv ∧ s.tm 15 = .sl 4 (avs t.uses) none ∧ s.tm 16 = .i t.uses.length ∧ s.tm 17 = .i j ∧ s.h = H u' ++ (L ++ M) := ⟨_, rfl⟩; refine QI I ?_ (m := t.uses.length) ?_
   ·intro m' s hs; rw [hI] at hs; obtain ⟨tm, hp⟩ := s; dsimp only at hs; obtain ⟨j, u', M, rfl, hj, hw, hJ', t1, t15, t16, t17, rfl⟩ := hs
    by_cases hlt : j < t.uses.length
    ·rw [List.drop_eq_getElem_cons hlt] at hw hJ'
     simp only [walks] at hw
     simp only [ndsL] at hJ'
     have hcc := fun L => Qiw V n (by omega) t.uses[j] u' L (Nat.le_trans (XM hlt) (by omega)) (QbL hlt hou) (V.less _ _ _ hJ' (by omega))
     have hroom := T.Qo6 V.step V.less _ u' t.uses[j] hJ'
     by_cases hb1 : (T.walk g u' t.uses[j]).1 = true
     ·rw [if_pos hb1] at hw
      repeat (first | ((first | (with_reducible (first | refine Qa fun K E hK hE => ?_ | refine Qk fun K E hK hE => ?_ | refine Za (hcc _) ?_))); simp -implicitDefEqProofs only [Qe, Qf, OpW, QK, aop, undef, AS.ev, AV.QoY, ↓reduceIte, QA, QB, QO, QH, Qt, aBin, ei29, ti41, zi41, t1, t15, t16, t17, hlt, hm, gk, sk, Q3 hlt, hb1, seval]) | (with_reducible (first | refine Qd fun K hK => ?_ | refine Qi ?_ | refine Qn ?_ | refine Qb ?_ | refine Qo ?_)) | ((with_reducible refine hK _ ?_); clear hK) | (refine Qg rfl ?_; simp only [↓reduceIte, QpQ]))
      refine QV.mk (m' := t.uses.length - (j + 1)) (by omega) ?_
      rw [hI]
      refine ⟨j + 1, _, _, rfl, hlt, hw, hroom, t1, t15, t16, ?_, rfl⟩
      simp only [upd, ↓reduceIte]
      rw [QP (by omega)]
     ·have hb2 : (T.walk g u' t.uses[j]).1 = false := by simpa using hb1
      rw [if_neg hb1] at hw
      repeat (first | ((first | (with_reducible (first | refine Qa fun K E hK hE => ?_ | refine Za (hcc _) ?_))); simp -implicitDefEqProofs only [Qe, Qf, OpW, QK, aop, undef, AS.ev, AV.QoY, ↓reduceIte, QA, QB, QO, QH, Qt, aBin, ei29, ti41, zi41, t1, t15, t16, t17, hlt, hm, gk, sk, Q3 hlt, hb2, seval]) | (with_reducible (first | refine Qd fun K hK => ?_ | refine Qi ?_ | refine Qj ?_ | refine Qn ?_ | refine Qb ?_ | refine Qq ?_ | refine Qs ?_)) | ((with_reducible refine hK _ ?_); clear hK) | (refine Qg rfl ?_; simp only [↓reduceIte]))
      simp only [QD, Ql, Qr, upd, ↓reduceIte, QpS, QpW]
      exact X2 V.len V.old (.keep (.v _)) ⟨by rw [e, hw], by rw [e, hw]⟩
    ·have hjl : j = t.uses.length := by omega
     rw [hjl, List.drop_length] at hw
     simp only [walks] at hw
     repeat (first | (((with_reducible refine Qa fun K E hK hE => ?_)); simp -implicitDefEqProofs only [Qe, Qf, OpW, aop, AS.ev, Nat.reduceLT, aBin, t16, t17, hlt]) | (with_reducible (first | refine Qd fun K hK => ?_ | refine Qj ?_ | refine QC ?_ | refine Qb ?_ | refine Qw ?_ | refine Qy ?_)) | ((with_reducible refine hK _ ?_); clear hK) | (clear hK; (with_reducible refine hK _ ?_); clear hK) | (refine Qg rfl ?_; simp only [↓reduceIte, QpQ]))
     simp only [QD, Ql, Qr, upd, ↓reduceIte, QpS, QpW]
     exact X2 V.len V.old (.keep (.v _)) ⟨by rw [e, hw], by rw [e, hw]⟩
   ·rw [hI]
    exact ⟨0, u, _, by omega, Nat.zero_le _, rfl, V.less _ _ _ hJ (by rw [List.drop_zero]; omega), rfl, rfl, rfl, rfl, rfl⟩
theorem Qlu {σ : Type} {fv : AV} {H : σ → AH} {g : σ → Int → Bool × σ} {J : σ → Nat → Prop} {m : Nat} (V : VisB Tryz.prog fv H g J m) (l : List T) (u : σ) (L : AH) (hn : ndsL l ≤ 1000000) (ho : oks l) (hJ : J u (ndsL l)) :
  Xf Tryz.prog 145 [fv, .pin 1 [.sl 4 (avs l) none] 0 0] (H u ++ L) fun o h' => o = .ret (.tup []) ∧ h' = H (walks g u l).2 ++ L := by
 have hm := V.len
 have hll := QW l
 have gk : ∀ (u : σ) (L : AH) (k : Nat), (H u ++ L)[m + k]? = L[k]? := fun u L k => by rw [← hm u]; exact hget _ _ _
 have sk : ∀ (u : σ) (L : AH) (k : Nat) (b : AB), (H u ++ L).set (m + k) b = H u ++ L.set k b := fun u L k b => by rw [← hm u]; exact hset _ _ _ _
 refine Qh Tryz.func145 rfl Tryz.call145 Tryz.ntmps145 (congrArg Array.toList Tryz.results145) (by simp) ?_
 repeat (first | (((with_reducible refine Qa fun K E hK hE => ?_)); simp -implicitDefEqProofs only [Qe, Qf, OpW, aop, undef, AS.ev, Qv, ↓reduceIte, Nat.reduceLT, QA, QB, aLen, goInt, ti29, un29]) | (with_reducible refine Qi ?_) | ((with_reducible refine hK _ ?_); clear hK))
 obtain ⟨I, hI⟩ : ∃ I : Nat → AS → Prop, I = fun m' s => ∃ (j : Nat) (u' : σ) (M : AH), m' = l.length - j ∧ j ≤ l.length ∧ walks g u l = walks g u' (l.drop j) ∧ J u' (ndsL (l.drop j)) ∧ s.tm 0 = fv ∧ s.tm 1 = .pin 1 [.sl 4 (avs l) none] 0 0 ∧ s.tm 5 = .i l.length ∧ s.tm 6 = .i j ∧ s.h = H u' ++ (L ++ M) := ⟨_, rfl⟩; refine QI I ?_ (m := l.length) ?_
 ·intro m' s hs; rw [hI] at hs; obtain ⟨tm, hp⟩ := s; dsimp only at hs; obtain ⟨j, u', M, rfl, hj, hw, hJ', t0, t1, t5, t6, rfl⟩ := hs
  by_cases hlt : j < l.length
  ·rw [List.drop_eq_getElem_cons hlt] at hw hJ'
   simp only [walks] at hw
   simp only [ndsL] at hJ'
   have hcc := fun L => Qiw V 1000000 (Nat.le_refl _) l[j] u' L (Nat.le_trans (XM hlt) hn) (QbL hlt ho) (V.less _ _ _ hJ' (by omega))
   have hroom := T.Qo6 V.step V.less _ u' l[j] hJ'
   by_cases hb1 : (T.walk g u' l[j]).1 = true
   ·rw [if_pos hb1] at hw
    repeat (first | ((first | (with_reducible (first | refine Qa fun K E hK hE => ?_ | refine Qk fun K E hK hE => ?_ | refine Za (hcc _) ?_))); simp -implicitDefEqProofs only [Qe, Qf, OpW, QK, aop, AS.ev, ↓reduceIte, QA, QB, Qt, aBin, ti29, ei29, ti41, t0, t1, t5, t6, hlt, Q3 hlt, hb1, seval]) | (with_reducible (first | refine Qd fun K hK => ?_ | refine Qi ?_ | refine Qn ?_ | refine Qb ?_ | refine Qo ?_)) | ((with_reducible refine hK _ ?_); clear hK) | (refine Qg rfl ?_; simp only [↓reduceIte, QpQ]))
    refine QV.mk (m' := l.length - (j + 1)) (by omega) ?_
    rw [hI]
    refine ⟨j + 1, _, _, rfl, hlt, hw, hroom, t0, t1, t5, ?_, rfl⟩
    simp only [upd, ↓reduceIte]
    rw [QP (by omega)]
   ·have hb2 : (T.walk g u' l[j]).1 = false := by simpa using hb1
    rw [if_neg hb1] at hw
    repeat (first | ((first | (with_reducible (first | refine Qa fun K E hK hE => ?_ | refine Za (hcc _) ?_))); simp -implicitDefEqProofs only [Qe, Qf, OpW, QK, aop, AS.ev, ↓reduceIte, QA, QB, Qt, aBin, ti29, ei29, ti41, t0, t1, t5, t6, hlt, Q3 hlt, hb2, seval]) | (with_reducible (first | refine Qd fun K hK => ?_ | refine Qi ?_ | refine Qj ?_ | refine Qn ?_ | refine Qb ?_ | refine Qq ?_ | refine Qs ?_)) | ((with_reducible refine hK _ ?_); clear hK) | (refine Qg rfl ?_; simp only [↓reduceIte]))
    exact ⟨.tup [], rfl, X2 V.len V.old (.keep (.tup [] (by simp))) ⟨rfl, by rw [hw]⟩⟩
  ·have hjl : j = l.length := by omega
   rw [hjl, List.drop_length] at hw
   simp only [walks] at hw
   repeat (first | (((with_reducible refine Qa fun K E hK hE => ?_)); simp -implicitDefEqProofs only [Qe, Qf, OpW, aop, AS.ev, Nat.reduceLT, aBin, t5, t6, hlt]) | (with_reducible (first | refine Qd fun K hK => ?_ | refine QC ?_ | refine Qw ?_ | refine Qy ?_)) | ((with_reducible refine hK _ ?_); clear hK) | (refine Qg rfl ?_; simp only [↓reduceIte, QpQ]))
   exact ⟨.tup [], rfl, X2 V.len V.old (.keep (.tup [] (by simp))) ⟨rfl, by rw [hw]⟩⟩
 ·rw [hI]
  exact ⟨0, u, [], by omega, Nat.zero_le _, rfl, V.less _ _ _ hJ (by rw [List.drop_zero]; omega), rfl, rfl, rfl, rfl, by simp⟩
theorem Qhb (l : List T) : Pure Tryz.prog 116 [.sl 4 (avs l) none] (.fn (.func 145) [] [.pin 1 [.sl 4 (avs l) none] 0 0]) := by
 intro h
 refine Qh Tryz.func116 rfl Tryz.call116 Tryz.ntmps116 (congrArg Array.toList Tryz.results116) (by simp) ?_
 repeat (first | (((with_reducible refine Qa fun K E hK hE => ?_)); simp -implicitDefEqProofs only [Qe, Qf, OpW, aop, undef, AS.ev, Qv, AV.QoY, ↓reduceIte, seval]) | (with_reducible refine Qj ?_) | ((with_reducible refine hK _ ?_); clear hK))
 simp only [QD, Ql, Qr, upd, ↓reduceIte, QpS, QpW]
 refine Qc (r' := .fn (.func 145) [] [.pin 1 [.sl 4 (avs l) none] 0 0]) (htake _ _) (.fn rfl rfl Qiz (X3 (.ptr (Nat.le_refl _) (Qfz _ _) ?_))) ⟨rfl, rfl⟩
 intro a ha
 simp only [flat, AV.cells, List.flatMap_cons, List.flatMap_nil, Qqf, List.mem_singleton] at ha
 subst ha
 exact X0 _ l
def YM : List Int → Int → Bool × List Int := fun s n => (true, if n ∈ s then s else s ++ [n])
def ZN (s : List Int) : List (Int × AV) := s.map fun n => (n, .v (.bool true))
theorem QeT (s : List Int) (n : Int) : QaO n (ZN s) = if n ∈ s then some (.v (.bool true)) else none := by
 induction s with
 | nil => rfl
 | cons a s ih =>
  show (if n = a then some (AV.v (.bool true)) else QaO n (ZN s)) = _
  rw [ih]
  by_cases h : n = a <;> simp [h]
theorem Qic (l : List T) (hn : ndsL l ≤ 1000000) (ho : oks l) (h : AH) (Q : AOut → AH → Prop)
  (hQ : ∀ own : AH, own[3]? = some (.grow 3 1 (walks YM [] l).2.length) → Leaves h (h ++ own) (.sl 1 (ints (walks YM [] l).2) (some (h.length + 3))) fun r h' => Q (.ret r) h') :
  Xf Tryz.prog 115 [.fn (.func 145) [] [.pin 1 [.sl 4 (avs l) none] 0 0]] h Q := by
 refine Qh Tryz.func115 rfl Tryz.call115 Tryz.ntmps115 (congrArg Array.toList Tryz.results115) (by simp) ?_
 repeat (first | (((with_reducible refine Qa fun K E hK hE => ?_)); simp -implicitDefEqProofs only [Qe, Qf, OpW, aop, undef, AS.ev, Qv, AV.QoY, ↓reduceIte, QO, QH, zi49, Qnf, QoJ, seval]) | (with_reducible (first | refine Qd fun K hK => ?_ | refine Qi ?_)) | ((with_reducible refine hK _ ?_); clear hK))
 refine QdO h.length 49 3 1 (by simp) ?_
 refine Qal rfl ?_
 simp -implicitDefEqProofs only [Qe, Nat.reduceAdd]
 generalize hi0 : LoopA.mk _ _ _ _ _ _ _ = i0
 have hat : ∀ a b, (i0.at a b).at .ready none = i0 := fun a b => by rw [← hi0]; rfl
 have V : VisB Tryz.prog (.mp (h.length + 4)) (fun s : List Int => h ++ [.cells 49 1 [.sl 1 (ints s) (some (h.length + 3))], .map (imap (ZN s)), .cells 172 1 [.mp (h.length + 1)], .grow 3 1 s.length, .loop i0]) YM (fun s j => s.length + j ≤ 1000000) (h.length + 5) := by
  refine ⟨fun s => by simp, fun s n L hj hn => ?_, fun s n j hj => ?_, fun s j j' hj hl => by omega, fun s s' i b hb => ?_⟩
  ·refine Qd8 (i := i0) (by rw [happ, hget]; rfl) (by rw [← hi0]; rfl) (fun t ht => by rw [← hi0] at ht ⊢; simp at ht; subst ht; show (8 : Nat) < 20; omega) ?_
   rw [← hi0]
   dsimp only
   rw [hi0]
   simp only [updL, happ]
   repeat (first | (((with_reducible refine Qk fun K E hK hE => ?_)); simp -implicitDefEqProofs only [Qe, Qf, OpW, aop, AS.ev, ↓reduceIte, Nat.reduceLT]) | ((with_reducible refine hK _ ?_); clear hK))
   refine ⟨i0, by rw [hget]; rfl, by rw [← hi0], ?_⟩
   by_cases hmem : n ∈ s
   ·have hf : QbU (.int .i64) (.int .i64 n) (imap (ZN s)) = some (some (.v (.bool true))) := by rw [Zu, QeT, if_pos hmem]
    simp -implicitDefEqProofs only [Qe]
    repeat (first | (((with_reducible refine Qa fun K E hK hE => ?_)); simp -implicitDefEqProofs only [Qe, Qf, OpW, aop, AS.ev, ↓reduceIte, QA, QB, Yf, Qnf, Qoo, hf, seval]) | (with_reducible (first | refine Qi ?_ | refine Qn ?_ | refine Qo ?_)) | ((with_reducible refine hK _ ?_); clear hK) | (refine Qg rfl ?_; simp only [↓reduceIte, QpQ]))
    refine ⟨i0.at .busy i0.pend, by rw [hget]; rfl, ?_⟩
    simp -implicitDefEqProofs only [hset, Qqg, Qqh, hat]
    have e : (YM s n).2 = s := if_pos hmem
    rw [e]
    exact ⟨rfl, rfl⟩
   ·have hf : QbU (.int .i64) (.int .i64 n) (imap (ZN s)) = some none := by rw [Zu, QeT, if_neg hmem]
    have hu : updA (.int .i64) (.int .i64 n) (.v (.bool true)) (imap (ZN s)) = some (imap (ZN (s ++ [n]))) := by
     rw [QcI _ _ _ (by rw [QeT, if_neg hmem])]
     simp [ZN]
    have hb1 : s.length + 1 ≤ maxLen := by simp only [maxLen]; omega
    have hb2 : (s.length + 1) * 8 ≤ 140737488355328 := by omega
    simp -implicitDefEqProofs only [Qe]
    repeat (first | ((first | (with_reducible (first | refine Qa fun K E hK hE => ?_ | refine Qk fun K E hK hE => ?_))); simp -implicitDefEqProofs only [Qe, Qf, OpW, aop, undef, AS.ev, Qv, AV.QoY, ↓reduceIte, QA, QB, QO, QH, QM, Xr, XS, Yf, Yd, zi3, zi4, ti49, ei49, ai49, Qnf, Qoo, hf, hu, hb1, hb2, seval]) | (with_reducible (first | refine Qi ?_ | refine Qo ?_)) | ((with_reducible refine hK _ ?_); clear hK) | (refine Qg rfl ?_; simp only [↓reduceIte]))
    refine ⟨i0.at .busy i0.pend, by rw [hget]; rfl, ?_⟩
    simp -implicitDefEqProofs only [hset, Qqg, Qqh, hat]
    have e : (YM s n).2 = s ++ [n] := if_neg hmem
    rw [e, XI, Qiv, List.length_append]
    exact ⟨rfl, rfl⟩
  ·simp only [YM]
   split
   ·omega
   ·rw [List.length_append, List.length_singleton]; omega
  ·rcases Nat.lt_or_ge i h.length with hi | hi
   ·rw [List.getElem?_append_left hi] at hb
    exact .inl (by rw [List.getElem?_append_left hi]; exact hb)
   ·obtain ⟨k, rfl⟩ : ∃ k, i = h.length + k := ⟨i - h.length, by omega⟩
    simp only [hget] at hb ⊢
    match k, hb with
    | 0, hb =>
     simp only [QpM, QpS] at hb
     subst hb
     refine .inr fun a ha => ?_
     simp only [flat, AV.cells, List.flatMap_cons, List.flatMap_nil, Qqf, List.mem_singleton] at ha
     subst ha
     exact .sl _ _ _ (Yh _ _) (fun b hb => by cases hb; omega)
    | 1, hb =>
     simp only [QpN, QpM, QpS] at hb
     subst hb
     refine .inr fun kv hkv => ?_
     simp only [imap, ZN, List.mem_map] at hkv
     obtain ⟨_, ⟨_, _, rfl⟩, rfl⟩ := hkv
     exact .v _
    | 2, hb => exact .inl hb
    | 3, hb =>
     simp only [QpN, QpM, QpS] at hb
     subst hb
     exact .inr trivial
    | 4, hb => exact .inl hb
    | k + 5, hb => simp at hb
 have hcall := Qlu V l [] [] hn ho (by simp; omega)
 simp only [Qqf] at hcall
 refine hcall.mono ?_
 rintro o h' ⟨rfl, rfl⟩
 have hne : i0.st ≠ .busy := by
  have hst : i0.st = .ready := by rw [← hi0]
  rw [hst]
  exact fun hq => by cases hq
 refine ⟨i0, by rw [hget]; rfl, hne, ?_⟩
 have hp : i0.pend = none := by rw [← hi0]
 rw [hp]
 rw [Qhj]
 simp -implicitDefEqProofs only [Qe]
 repeat (first | (((with_reducible refine Qa fun K E hK hE => ?_)); simp -implicitDefEqProofs only [Qe, Qf, OpW, aop, AS.ev, ↓reduceIte, QA, QB, ti49, seval]) | (with_reducible refine Qj ?_) | ((with_reducible refine hK _ ?_); clear hK))
 simp only [QD, Ql, Qr, upd, ↓reduceIte, QpS, QpW]
 exact hQ _ rfl
theorem Qk3 (l : List T) (hn : ndsL l ≤ 1000000) (ho : oks l) : Pure Tryz.prog 115 [.fn (.func 145) [] [.pin 1 [.sl 4 (avs l) none] 0 0]] (.sl 1 (ints (walks YM [] l).2) none) :=
 fun h => Qic l hn ho h _ fun own _ => Qc (htake _ _) (.tok (Yh _ _)) ⟨rfl, rfl⟩
theorem QfX (t : T) (hn : t.nds ≤ 1000000) (ho : t.ok) : Pure Tryz.prog 71 [t.av] (.sl 1 (ints (walks YM [] [t]).2) none) := by
 intro h
 have c1 := Qhb [t]
 rw [Zi] at c1
 have c2 := Qk3 [t] (by simp only [ndsL]; omega) ⟨ho, trivial⟩
 rw [Zi] at c2
 refine Qh Tryz.func71 rfl Tryz.call71 Tryz.ntmps71 (congrArg Array.toList Tryz.results71) (by simp) ?_
 repeat (first | ((first | (with_reducible (first | refine Qa fun K E hK hE => ?_ | refine Qp c1 ?_ | refine Qp c2 ?_))); simp -implicitDefEqProofs only [Qe, Qf, OpW, QK, aop, undef, AS.ev, Qv, AV.QoY, ↓reduceIte, QA, QB, QM, ei29, ti41, zi41, seval]) | (with_reducible refine Qj ?_) | ((with_reducible refine hK _ ?_); clear hK))
 simp only [QD, Ql, Qr, upd, ↓reduceIte, QpS, QpW]; first | refine Qc (htake _ _) (.keep (Qed _ _)) ⟨rfl, rfl⟩ | refine Qc List.take_length (.keep (Qed _ _)) ⟨rfl, rfl⟩
theorem Qop (l : List Int) : ∀ a ∈ flat (ints l), ∃ v, a = AV.v v := by
 intro a ha
 simp only [flat, ints, List.mem_flatMap, List.mem_map] at ha
 obtain ⟨x, ⟨n, _, rfl⟩, hx⟩ := ha
 simp only [AV.cells, List.mem_singleton] at hx
 exact ⟨_, hx⟩
theorem QmC (t : T) (hn : t.nds ≤ 1000000) (ho : t.ok) (hne : (walks YM [] [t]).2 ≠ []) (h : AH) : Xf Tryz.prog 71 [t.av] h fun o h' =>
  o = .ret (.arr h.length 0 (walks YM [] [t]).2.length) ∧ h' = h ++ [.cells 3 1 (ints (walks YM [] [t]).2)] := by
 have H : Xf Tryz.prog 71 [t.av] [] fun o h' => ∃ tok, o = .ret (.sl 1 (ints (walks YM [] [t]).2) (some tok)) ∧ h'[tok]? = some (.grow 3 1 (ints (walks YM [] [t]).2).length) := by
  have c1 := Qhb [t]
  rw [Zi] at c1
  have c2 : ∀ (h : AH) (C : AOut → AH → Prop), (∀ own : AH, own[3]? = some (.grow 3 1 (walks YM [] [t]).2.length) → C (.ret (.sl 1 (ints (walks YM [] [t]).2) (some (h.length + 3)))) (h ++ own)) →
    FunW Tryz.prog (.fn (.func 115) [] []) [.fn (.func 145) [] [.pin 1 [.sl 4 [t.av] none] 0 0]] h C := fun h C hC => by
   have := Qic [t] (by simp only [ndsL]; omega) ⟨ho, trivial⟩ h C fun own hown => Qb1 (hC own hown)
   rw [Zi] at this
   exact FunW.call this
  refine Qh Tryz.func71 rfl Tryz.call71 Tryz.ntmps71 (congrArg Array.toList Tryz.results71) (by simp) ?_
  repeat (first | ((first | (with_reducible (first | refine Qa fun K E hK hE => ?_ | refine Qp c1 ?_))); simp -implicitDefEqProofs only [Qe, Qf, OpW, QK, aop, undef, AS.ev, Qv, AV.QoY, ↓reduceIte, QA, QB, QM, ei29, ti41, zi41, seval]) | ((with_reducible refine hK _ ?_); clear hK))
  refine c2 _ _ fun own hown => ?_
  simp -implicitDefEqProofs only [Qe, Qf, OpW, QK, aop, AS.ev, ↓reduceIte, seval]
  repeat (first | (with_reducible refine Qj ?_) | ((with_reducible refine hK _ ?_); clear hK))
  simp only [QD, Ql, Qr, upd, ↓reduceIte, QpS, QpW]
  refine Qb1 ⟨_, rfl, ?_⟩
  rw [Xb]
  exact hown
 have := QiK (Qop _) (by rw [ne_eq, ints, List.map_eq_nil_iff]; exact hne) (fun a ha => by
  simp only [List.mem_singleton] at ha
  subst ha
  exact T.Qo0 0 t) H h
 rwa [Xb] at this
theorem clone_nil : Pure Tryz.prog 119 [.sl 4 (avs []) none] (.sl 4 (avs []) none) := by
 intro h
 refine Qh Tryz.func119 rfl Tryz.call119 Tryz.ntmps119 (congrArg Array.toList Tryz.results119) (by simp) ?_
 repeat (first | ((first | (with_reducible (first | refine Qa fun K E hK hE => ?_ | refine Qm1 ?_))); simp -implicitDefEqProofs only [Qe, Qf, OpW, aop, undef, Qcg, AS.ev, Qv, AV.QoY, ↓reduceIte, aBin, QM, Xr, XS, ei29, ai29, un29, zi41, Qam, seval]) | (with_reducible (first | refine Qd fun K hK => ?_ | refine Qj ?_ | refine Qn ?_ | refine Qb ?_)) | ((with_reducible refine hK _ ?_); clear hK) | (refine Qg rfl ?_; simp only [↓reduceIte, QpQ]) | (intro (b : Bool); cases b))
 ·repeat ((((with_reducible refine Qa fun K E hK hE => ?_)); simp -implicitDefEqProofs only [Qe, Qf, OpW, QK, aop, undef, Qcg, AS.ev, Qv, AV.QoY, ↓reduceIte, Qm, QA, QB, QO, QH, Qt, aBin, Qid, Xo, XA, XV, QM, Z6, Xj, aLen, Xr, XS, Yf, Yd, goInt, ti4, zi4, un4, ti29, ei29, ai29, zi29, un29, ti41, QX, Q9, Xl, Xc, zi41, sp41, Qqz, Int.sub_zero, QgF, QS, Qam, seval]))
  simp only [QD, Ql, Qr, upd, ↓reduceIte, QpS, QpW]; first | refine Qc (htake _ _) (.tok (by simp [flat])) ⟨rfl, rfl⟩ | refine Qc List.take_length (.tok (by simp [flat])) ⟨rfl, rfl⟩
 ·repeat (first | (((with_reducible refine Qa fun K E hK hE => ?_)); simp -implicitDefEqProofs only [Q4, Q2, Qf, OpW, aop, AS.ev, Q6, Qgc, Nat.reduceLT]) | (with_reducible (first | refine Qj ?_ | refine Qq ?_)) | ((with_reducible refine hK _ ?_); clear hK) | (refine Qg rfl ?_; simp only [↓reduceIte]))
  simp only [QD, Ql, Qr, upd, ↓reduceIte, QpS, QpW]; first | refine Qc (htake _ _) (.nil 4) ⟨rfl, rfl⟩ | refine Qc List.take_length (.nil 4) ⟨rfl, rfl⟩
theorem Qlc (l : List T) (hl : l ≠ []) (hb : l.length ≤ 1000000) (h : AH) : Xf Tryz.prog 119 [.sl 4 (avs l) none] h fun o h' => o = .ret (.arr (h.length + 1) 0 l.length) ∧ h' = h ++ [.dead, .cells 41 4 (avs l)] := by
 obtain ⟨t, m, rfl⟩ : ∃ t m, l = t :: m := by cases l with | nil => exact absurd rfl hl | cons t m => exact ⟨t, m, rfl⟩
 refine Qh Tryz.func119 rfl Tryz.call119 Tryz.ntmps119 (congrArg Array.toList Tryz.results119) (by simp) ?_
 have h1 : m.length + 1 ≤ maxLen := by simp only [QpZ] at hb; simp only [maxLen]; omega
 have h2 : (m.length + 1) * 56 ≤ 140737488355328 := by simp only [QpZ] at hb; omega
 repeat (first | ((first | (with_reducible (first | refine Qa fun K E hK hE => ?_ | refine Qm1 ?_))); simp -implicitDefEqProofs only [Qe, Qf, OpW, aop, undef, AS.ev, Qv, AV.QoY, ↓reduceIte, aBin, QM, Xr, XS, ei29, ai29, un29, zi41, avs, notNil, h1, h2, seval]) | (with_reducible (first | refine Qd fun K hK => ?_ | refine Qj ?_ | refine Qn ?_ | refine Qb ?_)) | ((with_reducible refine hK _ ?_); clear hK) | (refine Qg rfl ?_; simp only [↓reduceIte, QpQ]))
 simp only [QD, Ql, Qr, upd, ↓reduceIte, QpS, QpW]
 exact Qb1 ⟨rfl, rfl⟩
theorem Qm5 {xs l : List T} {t : T} {j : Nat} (hx : xs.length = j) (h : j < l.length) : (avs (xs ++ l.drop j)).set j t.av = avs (xs ++ [t] ++ l.drop (j + 1)) := by
 rw [YO, YO, List.map_append, List.map_append, List.map_append, List.set_append_right _ _ (by rw [List.length_map]; omega), List.length_map, hx, Nat.sub_self, List.append_assoc]
 rw [List.drop_eq_getElem_cons h]
 rfl
def bav (b : Int × T) : AV := .agg [.i b.1, .i b.2.kind, .i b.2.int, .v (.string b.2.name), .sl 4 (avs b.2.args) none]
def bavs (l : List (Int × T)) : List AV := l.map bav
theorem QL (l : List (Int × T)) : (bavs l).length = l.length := List.length_map _
theorem QY {l : List (Int × T)} {k : Nat} (h : k < l.length) : (bavs l)[k]? = some (bav l[k]) := by
 rw [bavs, List.getElem?_map, List.getElem?_eq_getElem h]; rfl
theorem Qc2 (l m : List (Int × T)) : bavs (l ++ m) = bavs l ++ bavs m := List.map_append
theorem QN (b : Int × T) : (bav b).cells = [.i b.1, .i b.2.kind, .i b.2.int, .v (.string b.2.name), .sl 4 (avs b.2.args) none] := rfl
theorem Xh (b : Int × T) : (bav b).isAgg = true := rfl
theorem Qle (n : Nat) (b : Int × T) : ∀ a ∈ (bav b).cells, Below n a := by
 intro a ha
 rw [QN] at ha
 simp only [List.mem_cons, List.not_mem_nil, or_false] at ha
 rcases ha with rfl | rfl | rfl | rfl | rfl
 ·exact .v _
 ·exact .v _
 ·exact .v _
 ·exact .v _
 ·exact X0 _ _
theorem QlI (n : Nat) (l : List (Int × T)) : ∀ a ∈ flat (bavs l), Below n a := by
 intro a ha
 simp only [flat, bavs, List.mem_flatMap, List.mem_map] at ha
 obtain ⟨x, ⟨b, _, rfl⟩, hx⟩ := ha
 exact Qle n b a hx
def bidx : List (Int × T) → Int → Option Nat
 | [], _ => none
 | b :: l, n => if b.1 = n then some 0 else (bidx l n).map (· + 1)
def QhR (l : List (Int × T)) (n : Int) : Int := match bidx l n with | some i => i | none => -1
def XB (l : List (Int × T)) (n : Int) : Option T := match l with
 | [] => none
 | b :: l => if b.1 = n then some b.2 else XB l n
theorem Qgf : ∀ (l : List (Int × T)) (n : Int), (bidx l n = none ∧ XB l n = none) ∨ ∃ i, ∃ h : i < l.length, bidx l n = some i ∧ XB l n = some (l[i]).2
 | [], n => .inl ⟨rfl, rfl⟩
 | b :: l, n => by
  simp only [bidx, XB]
  by_cases e : b.1 = n
  ·exact .inr ⟨0, by simp, by simp [e]⟩
  ·simp only [if_neg e]
   rcases Qgf l n with ⟨h1, h2⟩ | ⟨i, h, h1, h2⟩
   ·exact .inl ⟨by rw [h1]; rfl, h2⟩
   ·exact .inr ⟨i + 1, by simp only [QpZ]; omega, by rw [h1]; rfl, by rw [h2]; rfl⟩
mutual
def T.subst (b : List (Int × T)) : T → T
 | .mk k i n l => if k = 1 then (match XB b i with | some x => x | none => .mk k i n l) else if k = 2 then .mk k i n (Xd b l) else .mk k i n l
def Xd (b : List (Int × T)) : List T → List T
 | [] => []
 | t :: l => t.subst b :: Xd b l
end
theorem T.subst_eq (b : List (Int × T)) (t : T) : t.subst b = if t.kind = 1 then (match XB b t.int with | some x => x | none => t) else if t.kind = 2 then .mk t.kind t.int t.name (Xd b t.args) else t := by
 cases t; simp only [T.subst, T.kind, T.int, T.name, T.args]; rfl
theorem QaD (b : List (Int × T)) : ∀ l : List T, Xd b l = l.map (T.subst b)
 | [] => rfl
 | t :: l => by simp only [Xd, Qp1, QaD b l]
theorem YS (b : List (Int × T)) (l : List T) : (Xd b l).length = l.length := by rw [QaD, List.length_map]
theorem YP {b : List (Int × T)} {l : List T} {k : Nat} (h : k < l.length) : Xd b (l.take (k + 1)) = Xd b (l.take k) ++ [(l[k]).subst b] := by
 rw [QaD, QaD, List.take_succ_eq_append_getElem h, List.map_append]; rfl
theorem Qg2 (b : Int × T) (n : Int) (id : Nat) (h : AH) (hid : h[id]? = some (.cells 3 1 [.i n])) : Xf Tryz.prog 118 [bav b, .ptr id 0 0] h fun o h' => o = .ret (.b (b.1 == n)) ∧ h' = h := by
 have hx : ∀ L : AH, (h ++ L)[id]? = some (.cells 3 1 [.i n]) := fun L => hext hid L
 refine Qh Tryz.func118 rfl Tryz.call118 Tryz.ntmps118 (congrArg Array.toList Tryz.results118) (by simp) ?_
 repeat (first | (((with_reducible refine Qa fun K E hK hE => ?_)); simp -implicitDefEqProofs only [Qe, Qf, OpW, aop, undef, AS.ev, Qv, AV.QoY, ↓reduceIte, Qm, QA, QB, aBin, ti3, Xx, QN, hx, seval]) | (with_reducible refine Qj ?_) | ((with_reducible refine hK _ ?_); clear hK))
 simp only [QD, Ql, Qr, upd, ↓reduceIte, QpS, QpW]; first | refine Qc (htake _ _) (.keep (.v _)) ⟨rfl, rfl⟩ | refine Qc List.take_length (.keep (.v _)) ⟨rfl, rfl⟩
theorem QdV (l : List (Int × T)) (n : Int) (hb : l.length ≤ 1000000) (fv : AV) (h : AH) (hv : ∀ b : Int × T, FunW Tryz.prog fv [bav b] h fun o h' => o = .ret (.b (b.1 == n)) ∧ h' = h) :
  Xf Tryz.prog 117 [.sl 5 (bavs l) none, fv] h fun o h' => o = .ret (.i (QhR l n)) ∧ h' = h := by
 have hv' : ∀ (b : Int × T) (C : AOut → AH → Prop), C (.ret (.b (b.1 == n))) h → FunW Tryz.prog fv [bav b] h C := fun b C k => (hv b).mono (by rintro _ _ ⟨rfl, rfl⟩; exact k)
 refine Qh Tryz.func117 rfl Tryz.call117 Tryz.ntmps117 (congrArg Array.toList Tryz.results117) (by simp) ?_
 repeat (first | (((with_reducible refine Qa fun K E hK hE => ?_)); simp -implicitDefEqProofs only [Qe, Qf, OpW, aop, undef, AS.ev, Qv, ↓reduceIte, aLen, goInt, un23, QL, seval]) | (with_reducible (first | refine Qd fun K hK => ?_ | refine Qi ?_)) | ((with_reducible refine hK _ ?_); clear hK))
 obtain ⟨I, hI⟩ : ∃ I : Nat → AS → Prop, I = fun m' s => ∃ j : Nat, m' = l.length - j ∧ j ≤ l.length ∧ bidx l n = (bidx (l.drop j) n).map (· + j) ∧ s.tm 0 = .sl 5 (bavs l) none ∧ s.tm 1 = fv ∧ s.tm 7 = .i l.length ∧ s.tm 8 = .i j ∧ s.h = h := ⟨_, rfl⟩; refine QI I ?_ (m := l.length) ?_
 ·intro m' s hs; rw [hI] at hs; obtain ⟨tm, hp⟩ := s; dsimp only at hs; obtain ⟨j, rfl, hj, he, t0, t1, t7, t8, rfl⟩ := hs
  by_cases hlt : j < l.length
  ·rw [List.drop_eq_getElem_cons hlt] at he
   simp only [bidx] at he
   have hc := hv' l[j]
   by_cases hz : (l[j]).1 = n
   ·have hb1 : ((l[j]).1 == n) = true := by simpa using hz
    rw [if_pos hz] at he
    rw [hb1] at hc
    repeat (first | ((first | (with_reducible (first | refine Qa fun K E hK hE => ?_ | refine hc _ ?_))); simp -implicitDefEqProofs only [Qe, Qf, OpW, QK, aop, AS.ev, ↓reduceIte, QA, QB, Qt, aBin, ei23, ti52, t0, t1, t7, t8, hlt, QL, QY hlt, QN, Xh, seval]) | (with_reducible (first | refine Qd fun K hK => ?_ | refine Qi ?_ | refine Qj ?_ | refine Qn ?_ | refine Qb ?_ | refine Qq ?_ | refine Qs ?_)) | ((with_reducible refine hK _ ?_); clear hK) | (refine Qg rfl ?_; simp only [↓reduceIte]))
    simp only [QD, Ql, Qr, upd, ↓reduceIte, QpS, QpW]
    exact Qc List.take_length (.keep (.v _)) ⟨by simp [QhR, he], rfl⟩
   ·have hb1 : ((l[j]).1 == n) = false := by simpa using hz
    rw [if_neg hz] at he
    rw [hb1] at hc
    repeat (first | ((first | (with_reducible (first | refine Qa fun K E hK hE => ?_ | refine Qk fun K E hK hE => ?_ | refine hc _ ?_))); simp -implicitDefEqProofs only [Qe, Qf, OpW, QK, aop, AS.ev, ↓reduceIte, QA, QB, Qt, aBin, ei23, ti52, t0, t1, t7, t8, hlt, QL, QY hlt, QN, Xh, seval]) | (with_reducible (first | refine Qd fun K hK => ?_ | refine Qi ?_ | refine Qn ?_ | refine Qb ?_ | refine Qo ?_)) | ((with_reducible refine hK _ ?_); clear hK) | (refine Qg rfl ?_; simp only [↓reduceIte, QpQ]))
    refine QV.mk (m' := l.length - (j + 1)) (by omega) ?_
    rw [hI]
    refine ⟨j + 1, rfl, hlt, ?_, t0, t1, t7, ?_, rfl⟩
    ·rw [he, Option.map_map]
     congr 1
     funext x
     simp only [Function.comp]
     omega
    ·simp only [upd, ↓reduceIte]
     rw [QP (by omega)]
  ·have hjl : j = l.length := by omega
   rw [hjl, List.drop_length] at he
   simp only [bidx, Qqr] at he
   repeat (first | (((with_reducible refine Qa fun K E hK hE => ?_)); simp -implicitDefEqProofs only [Qe, Qf, OpW, aop, AS.ev, Nat.reduceLT, aBin, t7, t8, hlt]) | (with_reducible (first | refine Qd fun K hK => ?_ | refine Qj ?_ | refine QC ?_ | refine Qb ?_ | refine Qw ?_ | refine Qy ?_)) | ((with_reducible refine hK _ ?_); clear hK) | (clear hK; (with_reducible refine hK _ ?_); clear hK) | (refine Qg rfl ?_; simp only [↓reduceIte, QpQ]))
   simp only [QD, Ql, Qr, upd, ↓reduceIte, QpS, QpW]
   exact Qc List.take_length (.keep (.v _)) ⟨by simp [QhR, he], rfl⟩
 ·rw [hI]
  exact ⟨0, by omega, Nat.zero_le _, by simp, rfl, rfl, rfl, rfl, rfl⟩
def T.zero : T := .mk 0 0 { data := #[] } []
theorem Qh4 (l : List (Int × T)) (n : Int) (hb : l.length ≤ 1000000) : Pure Tryz.prog 73 [.sl 5 (bavs l) none, .i n] (.tup [(match XB l n with | some x => x | none => T.zero).av, .b (XB l n).isSome]) := by
 intro h
 have c1 := fun zb : AB => QdV l n hb (.fn (.func 118) [] [.ptr h.length 0 0]) (h ++ [.cells 3 1 [.i n], zb]) (fun b => FunW.fn (Qg2 b n h.length _ (by rw [Qfz]; rfl)))
 rcases Qgf l n with ⟨h1, h2⟩ | ⟨i, hi, h1, h2⟩
 ·have e : QhR l n = -1 := by simp [QhR, h1]
  simp only [e] at c1
  have hneg : ((-1 : Int) < 0) := by decide
  rw [h2]
  refine Qh Tryz.func73 rfl Tryz.call73 Tryz.ntmps73 (congrArg Array.toList Tryz.results73) (by simp) ?_
  repeat (first | ((first | (with_reducible (first | refine Qa fun K E hK hE => ?_ | refine Za (c1 _) ?_))); simp -implicitDefEqProofs only [Qe, Qf, OpW, QK, aop, undef, AS.ev, Qv, AV.QoY, ↓reduceIte, QO, QH, aBin, XA, XV, ti41, zi41, sp41, hneg, seval]) | (with_reducible (first | refine Qd fun K hK => ?_ | refine Qj ?_ | refine Qq ?_)) | ((with_reducible refine hK _ ?_); clear hK) | (refine Qg rfl ?_; simp only [↓reduceIte]))
  simp -implicitDefEqProofs only [Qe, ↓reduceIte, QA, QB, ti41, List.mapM_cons, List.mapM_nil, Option.pure_def, Option.bind_eq_bind, QD, Ql, Qr, QpW, seval]
  exact Qc (r' := .tup [.agg [.i 0, .i 0, .v (.string { data := #[] }), .sl 4 [] none], .b false]) (htake _ _) (.tup rfl (Xe (.agg rfl (Xe (.keep (.v _)) (Xe (.keep (.v _)) (Xe (.keep (.v _)) (X3 (.nil 4)))))) (X3 (.keep (.v _))))) ⟨by simp only [T.zero, T.av, avs, Option.isSome], rfl⟩
 ·have e : QhR l n = (i : Int) := by simp [QhR, h1]
  simp only [e] at c1
  have hneg : ¬ ((i : Int) < 0) := by omega
  rw [h2]
  refine Qh Tryz.func73 rfl Tryz.call73 Tryz.ntmps73 (congrArg Array.toList Tryz.results73) (by simp) ?_
  repeat (first | ((first | (with_reducible (first | refine Qa fun K E hK hE => ?_ | refine Za (c1 _) ?_))); simp -implicitDefEqProofs only [Qe, Qf, OpW, QK, aop, undef, AS.ev, Qv, AV.QoY, ↓reduceIte, Qm, QA, QB, QO, QH, Qt, aBin, ei23, ti41, zi41, Zc, hneg, hi, QY hi, QN, Xh, QL, seval]) | (with_reducible (first | refine Qd fun K hK => ?_ | refine Qj ?_ | refine Qn ?_ | refine Qb ?_)) | ((with_reducible refine hK _ ?_); clear hK) | (refine Qg rfl ?_; simp only [↓reduceIte, QpQ]))
  simp -implicitDefEqProofs only [Qe, ↓reduceIte, QA, QB, ti41, List.mapM_cons, List.mapM_nil, Option.pure_def, Option.bind_eq_bind, QD, Ql, Qr, QpW, seval]
  rw [← T.Qo7]
  exact Qc (htake _ _) (.keep (.tup _ (by
   intro a ha
   simp only [List.mem_cons, List.not_mem_nil, or_false] at ha
   rcases ha with rfl | rfl
   ·exact T.Qo0 _ _
   ·exact .v _))) ⟨rfl, rfl⟩
theorem Qcd (b : List (Int × T)) (n : Nat) (hb : n ≤ 1000000) (ih : ∀ t : T, t.nds ≤ n → Pure Tryz.prog 36 [.sl 5 (bavs b) none, t.av] (t.subst b).av) (l : List T) (hn : ndsL l ≤ n) :
  Pure Tryz.prog 74 [.sl 5 (bavs b) none, .sl 4 (avs l) none] (.sl 4 (avs (Xd b l)) none) := by
 intro h
 have hll := QW l
 by_cases hl : l = []
 ·subst hl
  have hc := clone_nil
  rw [Qam] at hc
  have h00 : ¬ ((0 : Int) < 0) := by decide
  refine Qh Tryz.func74 rfl Tryz.call74 Tryz.ntmps74 (congrArg Array.toList Tryz.results74) (by simp) ?_
  repeat (first | ((first | (with_reducible (first | refine Qa fun K E hK hE => ?_ | refine Qp hc ?_))); simp -implicitDefEqProofs only [Qe, Qf, OpW, QK, aop, undef, AS.ev, Qv, ↓reduceIte, aLen, goInt, un29, Qam, seval]) | (with_reducible (first | refine Qd fun K hK => ?_ | refine Qi ?_)) | ((with_reducible refine hK _ ?_); clear hK))
  obtain ⟨I, hI⟩ : ∃ I : Nat → AS → Prop, I = fun m' s => m' = 0 ∧ s.tm 5 = .sl 4 [] none ∧ s.tm 10 = .i 0 ∧ s.tm 11 = .i 0 ∧ s.h = h := ⟨_, rfl⟩; refine QI I ?_ (m := 0) ?_
  ·intro m' s hs; rw [hI] at hs; obtain ⟨tm, hp⟩ := s; dsimp only at hs; obtain ⟨rfl, t5, t10, t11, rfl⟩ := hs
   repeat (first | (((with_reducible refine Qa fun K E hK hE => ?_)); simp -implicitDefEqProofs only [Qe, Qf, OpW, aop, AS.ev, ↓reduceIte, aBin, t5, t10, t11, h00, seval]) | (with_reducible (first | refine Qd fun K hK => ?_ | refine Qj ?_ | refine QC ?_ | refine Qb ?_ | refine Qw ?_ | refine Qy ?_)) | ((with_reducible refine hK _ ?_); clear hK) | (clear hK; (with_reducible refine hK _ ?_); clear hK) | (refine Qg rfl ?_; simp only [↓reduceIte, QpQ]))
   simp only [QD, Ql, Qr, upd, ↓reduceIte, QpS, QpW]
   exact Qc List.take_length (.keep (X0 _ [])) ⟨by simp only [Xd, avs], rfl⟩
  ·rw [hI]
   exact ⟨rfl, rfl, rfl, rfl, rfl⟩
 ·refine Qh Tryz.func74 rfl Tryz.call74 Tryz.ntmps74 (congrArg Array.toList Tryz.results74) (by simp) ?_
  repeat (first | ((first | (with_reducible (first | refine Qa fun K E hK hE => ?_ | refine Za (Qlc l hl (by omega) _) ?_))); simp -implicitDefEqProofs only [Qe, Qf, OpW, QK, aop, undef, AS.ev, Qv, ↓reduceIte, aLen, goInt, un29, seval]) | (with_reducible (first | refine Qd fun K hK => ?_ | refine Qi ?_)) | ((with_reducible refine hK _ ?_); clear hK))
  obtain ⟨I, hI⟩ : ∃ I : Nat → AS → Prop, I = fun m' s => ∃ j : Nat, m' = l.length - j ∧ j ≤ l.length ∧ s.tm 0 = .sl 5 (bavs b) none ∧ s.tm 5 = .arr (h.length + 1) 0 l.length ∧ s.tm 10 = .i l.length ∧ s.tm 11 = .i j ∧ s.h = h ++ [.dead, .cells 41 4 (avs (Xd b (l.take j) ++ l.drop j))] := ⟨_, rfl⟩; refine QI I ?_ (m := l.length) ?_
  ·intro m' s hs; rw [hI] at hs; obtain ⟨tm, hp⟩ := s; dsimp only at hs; obtain ⟨j, rfl, hj, t0, t5, t10, t11, rfl⟩ := hs
   by_cases hlt : j < l.length
   ·have hml : (Xd b (l.take j)).length = j := by rw [YS, List.length_take]; omega
    have hg : (avs (Xd b (l.take j) ++ l.drop j))[j]? = some (l[j]).av := by
     rw [Ye, List.getElem?_append_right (by rw [Zo]; omega), Zo, hml, Nat.sub_self, Q3 (by rw [List.length_drop]; omega)]
     simp
    have hc := ih l[j] (Nat.le_trans (XM hlt) hn)
    repeat (first | ((first | (with_reducible (first | refine Qa fun K E hK hE => ?_ | refine Qk fun K E hK hE => ?_ | refine Qp hc ?_))); simp -implicitDefEqProofs only [Qe, Qf, OpW, QK, aop, undef, AS.ev, AV.QoY, ↓reduceIte, QA, QB, QO, QH, Qt, aBin, ei29, ti41, t0, t5, t10, t11, hlt, hg, seval]) | (with_reducible (first | refine Qd fun K hK => ?_ | refine Qi ?_ | refine Qn ?_ | refine Qb ?_ | refine Qo ?_)) | ((with_reducible refine hK _ ?_); clear hK) | (refine Qg rfl ?_; simp only [↓reduceIte]))
    refine QV.mk (m' := l.length - (j + 1)) (by omega) ?_
    rw [hI]
    refine ⟨j + 1, rfl, hlt, t0, t5, t10, ?_, ?_⟩
    ·simp only [upd, ↓reduceIte]
     rw [QP (by omega)]
    ·rw [Qm5 hml hlt, YP hlt]
   ·have hjl : j = l.length := by omega
    subst hjl
    repeat (first | (((with_reducible refine Qa fun K E hK hE => ?_)); simp -implicitDefEqProofs only [Qe, Qf, OpW, aop, AS.ev, ↓reduceIte, aBin, t5, t10, t11, hlt, seval]) | (with_reducible (first | refine Qd fun K hK => ?_ | refine Qj ?_ | refine QC ?_ | refine Qb ?_ | refine Qw ?_ | refine Qy ?_)) | ((with_reducible refine hK _ ?_); clear hK) | (clear hK; (with_reducible refine hK _ ?_); clear hK) | (refine Qg rfl ?_; simp only [↓reduceIte, QpQ]))
    simp only [QD, Ql, Qr, upd, ↓reduceIte, QpS, QpW]
    rw [List.take_length, List.drop_length, List.append_nil]
    have hz := YS b l
    have hfr : Frz (h ++ [.dead, .cells 41 4 (avs (Xd b l))]) h.length (.arr (h.length + 1) 0 l.length) (.sl 4 (((avs (Xd b l)).drop 0).take l.length) none) := by
     refine .arr (by omega) (s := 4) (ty := 41) ?_ (by rw [Zo]; omega) (YE _ _)
     rw [hget]; rfl
    rw [List.drop_zero, List.take_of_length_le (by rw [Zo]; omega)] at hfr
    exact Qc (htake _ _) hfr ⟨rfl, rfl⟩
  ·rw [hI]
   refine ⟨0, by omega, Nat.zero_le _, rfl, rfl, rfl, rfl, ?_⟩
   simp only [Qp4, Xd, Qp3, Qqd]
theorem apply_pure (b : List (Int × T)) (hb : b.length ≤ 1000000) : ∀ n, n ≤ 1000000 → ∀ t : T, t.nds ≤ n → Pure Tryz.prog 36 [.sl 5 (bavs b) none, t.av] (t.subst b).av
 | 0, _, t, hn => by have := T.Qo1 t; omega
 | n + 1, hbn, t, hn => by
  intro h
  have e := T.subst_eq b t
  have hnd := T.Qo1 t
  by_cases h1 : t.kind = 1
  ·have b1 : (t.kind == 1) = true := by simpa using h1
   rw [if_pos h1] at e
   have c1 := Qh4 b t.int hb
   cases hlk : XB b t.int with
   | none =>
    rw [hlk] at c1 e
    refine Qh Tryz.func36 rfl Tryz.call36 Tryz.ntmps36 (congrArg Array.toList Tryz.results36) (by simp) ?_
    repeat (first | ((first | (with_reducible (first | refine Qa fun K E hK hE => ?_ | refine Qp c1 ?_))); simp -implicitDefEqProofs only [Qe, Qf, OpW, QK, aop, undef, AS.ev, Qv, AV.QoY, ↓reduceIte, Qm, QA, QB, QO, QH, aBin, Xo, ti3, ti41, QX, Q9, zi41, b1, Option.isSome, seval]) | (with_reducible (first | refine Qd fun K hK => ?_ | refine Qi ?_ | refine Qj ?_ | refine Qn ?_ | refine Qb ?_ | refine Qo ?_)) | ((with_reducible refine hK _ ?_); clear hK) | (refine Qg rfl ?_; simp only [↓reduceIte, QpQ]))
    simp -implicitDefEqProofs only [Qe, ↓reduceIte, QA, QB, ti41, QD, Ql, Qr, QpW, seval]
    exact Qc (htake _ _) (.keep (T.Qo0 _ _)) ⟨by rw [e], rfl⟩
   | some x =>
    rw [hlk] at c1 e
    refine Qh Tryz.func36 rfl Tryz.call36 Tryz.ntmps36 (congrArg Array.toList Tryz.results36) (by simp) ?_
    repeat (first | ((first | (with_reducible (first | refine Qa fun K E hK hE => ?_ | refine Qp c1 ?_))); simp -implicitDefEqProofs only [Qe, Qf, OpW, QK, aop, undef, AS.ev, Qv, AV.QoY, ↓reduceIte, Qm, QA, QB, QO, QH, aBin, Xo, ti3, ti41, QX, Q9, zi41, b1, Option.isSome, seval]) | (with_reducible (first | refine Qd fun K hK => ?_ | refine Qi ?_ | refine Qj ?_ | refine Qq ?_ | refine Qs ?_)) | ((with_reducible refine hK _ ?_); clear hK) | (refine Qg rfl ?_; simp only [↓reduceIte]))
    simp -implicitDefEqProofs only [Qe, ↓reduceIte, QA, QB, ti41, QD, Ql, Qr, QpW, seval]
    exact Qc (htake _ _) (.keep (T.Qo0 _ _)) ⟨by rw [e], rfl⟩
  ·have b1 : (t.kind == 1) = false := by simpa using h1
   rw [if_neg h1] at e
   by_cases h2 : t.kind = 2
   ·have b2 : (t.kind == 2) = true := by simpa using h2
    rw [if_pos h2] at e
    have c2 := Qcd b n (by omega) (apply_pure b hb n (by omega)) t.args (by omega)
    refine Qh Tryz.func36 rfl Tryz.call36 Tryz.ntmps36 (congrArg Array.toList Tryz.results36) (by simp) ?_
    repeat (first | ((first | (with_reducible (first | refine Qa fun K E hK hE => ?_ | refine Qk fun K E hK hE => ?_ | refine Qp c2 ?_))); simp -implicitDefEqProofs only [Qe, Qf, OpW, QK, aop, undef, AS.ev, Qv, AV.QoY, ↓reduceIte, Qm, QA, QB, QO, QH, aBin, ti3, ti29, ti41, QX, Xc, zi41, b1, b2, seval]) | (with_reducible (first | refine Qd fun K hK => ?_ | refine Qi ?_ | refine Qj ?_ | refine Qb ?_ | refine Qo ?_)) | ((with_reducible refine hK _ ?_); clear hK) | (refine Qg rfl ?_; simp only [↓reduceIte, QpQ]))
    simp -implicitDefEqProofs only [Qe, ↓reduceIte, QA, QB, ti41, QD, Ql, Qr, QpW, seval]
    rw [T.Qo9]
    exact Qc (htake _ _) (.keep (T.Qo0 _ _)) ⟨by rw [e], rfl⟩
   ·have b2 : (t.kind == 2) = false := by simpa using h2
    rw [if_neg h2] at e
    refine Qh Tryz.func36 rfl Tryz.call36 Tryz.ntmps36 (congrArg Array.toList Tryz.results36) (by simp) ?_
    repeat (first | (((with_reducible refine Qa fun K E hK hE => ?_)); simp -implicitDefEqProofs only [Qe, Qf, OpW, aop, undef, AS.ev, Qv, AV.QoY, ↓reduceIte, Qm, QA, QB, QO, QH, aBin, ti3, ti41, QX, zi41, b1, b2, seval]) | (with_reducible (first | refine Qd fun K hK => ?_ | refine Qi ?_ | refine Qj ?_ | refine Qn ?_ | refine Qb ?_ | refine Qo ?_)) | ((with_reducible refine hK _ ?_); clear hK) | (refine Qg rfl ?_; simp only [↓reduceIte, QpQ]))
    simp -implicitDefEqProofs only [Qe, ↓reduceIte, QA, QB, ti41, QD, Ql, Qr, QpW, seval]
    exact Qc (htake _ _) (.keep (T.Qo0 _ _)) ⟨by rw [e], rfl⟩
theorem Qh1 (s : ByteArray) (k : Nat) : byteAt (s.extract 1 s.size) k = byteAt s (k + 1) := by
 unfold byteAt
 rw [Lib.extract_data, List.take_of_length_le (by rw [List.length_drop, ← Lib.size_eq]; omega), List.getD_eq_getElem?_getD, List.getD_eq_getElem?_getD, List.getElem?_drop, Nat.add_comm 1 k]
theorem Qgj (s : ByteArray) : (s.extract 1 s.size).size = s.size - 1 := by
 rw [Lib.size_eq, Lib.extract_data, List.length_take, List.length_drop, ← Lib.size_eq]; omega
def fol (c : Int) : Prop := ofN c ≠ 0
instance (c : Int) : Decidable (fol c) := by unfold fol; infer_instance
theorem ZX (c : Int) : fol c ↔ (97 ≤ c ∧ c ≤ 122) ∨ (65 ≤ c ∧ c ≤ 90) ∨ c = 95 ∨ (48 ≤ c ∧ c ≤ 57) := by
 unfold fol ofN
 split
 ·constructor
  ·intro _; omega
  ·intro _; decide
 ·split
  ·constructor
   ·intro _; omega
   ·intro _; decide
  ·split
   ·constructor
    ·intro _; omega
    ·intro _; decide
   ·constructor
    ·intro h; exact absurd rfl h
    ·intro _; omega
def Fol (s : ByteArray) : Prop := ∀ k, k < s.size → fol (byteAt s k)
instance (s : ByteArray) : Decidable (Fol s) := by unfold Fol; infer_instance
theorem Qgx (c : Int) : ofN c = 0 ∨ ofN c = 1 ∨ ofN c = 2 ∨ ofN c = 4 := by
 unfold ofN
 repeat' split
 all_goals simp
theorem QjR (r : Int) (hr : 0 ≤ r ∧ r < 2147483648) : Pure Tryz.prog 144 [.v (.int .i32 r)] (.b (decide (122 < r ∨ ¬ fol r))) := by
 intro h
 by_cases h1 : r > 122
 ·refine Qh Tryz.func144 rfl Tryz.call144 Tryz.ntmps144 (congrArg Array.toList Tryz.results144) (by simp) ?_
  repeat (first | (((with_reducible refine Qa fun K E hK hE => ?_)); simp -implicitDefEqProofs only [Qe, Qf, OpW, aop, undef, AS.ev, Qv, ↓reduceIte, aBin, h1, seval]) | (with_reducible refine Qj ?_) | ((with_reducible refine hK _ ?_); clear hK))
  simp only [QD, Ql, Qr, upd, ↓reduceIte, QpS, QpW]; first | refine Qc (htake _ _) (.keep (.v _)) ⟨by rw [decide_eq_true (.inl h1)], rfl⟩ | refine Qc List.take_length (.keep (.v _)) ⟨by rw [decide_eq_true (.inl h1)], rfl⟩
 ·have hcv := QkT Tryz.prog 21 5 (ts := .int .i32) (kd := .u8) (by kernel_rfl) (by kernel_rfl) .i32
  have w0 : IntKind.u8.wrap r = r := by simp [IntKind.wrap, IntKind.bits, IntKind.signed]; omega
  have c := Qld r (by omega)
  have hf : decide (122 < r ∨ ¬ fol r) = (ofN r == 0) := by
   by_cases h0 : ofN r = 0
   ·rw [h0, decide_eq_true (.inr fun h => h h0)]; rfl
   ·rw [decide_eq_false (by rintro (h | h); exact h1 h; exact h h0)]; simp [h0]
  have ha : ∀ xo yo a, a = 0 ∨ a = 1 ∨ a = 2 ∨ a = 4 → pv Tryz.prog (do eqGuard .and 147 xo yo (.int .u8 a) (.int .u8 7); binOp .and 147 (.int .u8 a) (.int .u8 7)) = some (.int .u8 a) := by
   rintro xo yo a (rfl | rfl | rfl | rfl) <;> rfl
  have ha' := fun xo yo => ha xo yo (ofN r) (Qgx r)
  refine Qh Tryz.func144 rfl Tryz.call144 Tryz.ntmps144 (congrArg Array.toList Tryz.results144) (by simp) ?_
  repeat (first | ((first | (with_reducible (first | refine Qa fun K E hK hE => ?_ | refine Qp c ?_))); simp -implicitDefEqProofs only [Qe, Qf, OpW, QK, aop, undef, AS.ev, Qv, ↓reduceIte, aBin, h1, hcv, w0, ha', seval]) | (with_reducible refine Qj ?_) | ((with_reducible refine hK _ ?_); clear hK))
  simp only [QD, Ql, Qr, upd, ↓reduceIte, QpS, QpW]; first | refine Qc (htake _ _) (.keep (.v _)) ⟨by rw [hf], rfl⟩ | refine Qc List.take_length (.keep (.v _)) ⟨by rw [hf], rfl⟩
def ixR (s : ByteArray) : Nat → Nat → Int
 | _, 0 => -1
 | p, n + 1 => if fol (byteAt s p) then ixR s (p + 1) n else p
theorem Qlz (s : ByteArray) : ∀ (n p : Nat), ixR s p n < 0 ↔ ∀ k, p ≤ k → k < p + n → fol (byteAt s k)
 | 0, p => by simp only [ixR]; exact ⟨fun _ k h1 h2 => by omega, fun _ => by omega⟩
 | n + 1, p => by
  simp only [ixR]
  split
  ·rename_i h
   rw [Qlz s n (p + 1)]
   constructor
   ·intro h' k h1 h2
    by_cases hk : k = p
    ·rw [hk]; exact h
    ·exact h' k (by omega) (by omega)
   ·intro h' k h1 h2; exact h' k (by omega) (by omega)
  ·rename_i h
   constructor
   ·intro h'; omega
   ·intro h'; exact absurd (h' p (Nat.le_refl _) (by omega)) h
theorem Qlx (s : ByteArray) (i : Nat) : (Utf8.decode s i).1 < 2147483648 := by
 unfold Utf8.decode
 have hr : Utf8.runeError < 2147483648 := by decide
 have hb : ∀ k, (s.get! k).toNat < 256 := fun k => (s.get! k).toNat_lt
 have b0 := hb (i + 0)
 have b1 := hb (i + 1)
 have b2 := hb (i + 2)
 have b3 := hb (i + 3)
 simp only
 repeat' split
 all_goals first | exact hr | (simp only; omega)
theorem Qd6 (b : ByteArray) (hs : b.size ≤ maxLen) : Pure Tryz.prog 155 [.v (.string b), .fn (.func 144) [] [], .b true] (.i (ixR b 0 b.size)) := by
 intro h
 have hbe := fun xo yo a b => Qni Tryz.prog 4 xo yo (by kernel_rfl) a b
 refine Qh Tryz.func155 rfl Tryz.call155 Tryz.ntmps155 (congrArg Array.toList Tryz.results155) (by simp) ?_
 repeat (first | (((with_reducible refine Qa fun K E hK hE => ?_)); simp -implicitDefEqProofs only [Qe, Qf, OpW, aop, undef, AS.ev, Qv, ↓reduceIte, un9, seval]) | (with_reducible (first | refine Qd fun K hK => ?_ | refine Qi ?_)) | ((with_reducible refine hK _ ?_); clear hK))
 obtain ⟨I, hI⟩ : ∃ I : Nat → AS → Prop, I = fun m' s => ∃ (p : Nat), m' = b.size - p ∧ p ≤ b.size ∧ ixR b 0 b.size = ixR b p (b.size - p) ∧ s.tm 1 = .fn (.func 144) [] [] ∧ s.tm 2 = .b true ∧ s.tm 10 = .mp h.length ∧ s.h = h ++ [.iter b p] := ⟨_, rfl⟩; refine QI I ?_ (m := b.size) ?_
 ·intro m' s hs; rw [hI] at hs; obtain ⟨tm, hp⟩ := s; dsimp only at hs; obtain ⟨p, rfl, hp', he, t1, t2, t10, rfl⟩ := hs
  by_cases hlt : p < b.size
  ·have c := QjR ((Utf8.decode b p).1 : Int) ⟨by omega, by have := Qlx b p; omega⟩
   obtain ⟨n, hn⟩ : ∃ n, b.size - p = n + 1 := ⟨b.size - p - 1, by omega⟩
   rw [hn, ixR] at he
   by_cases hf : fol (byteAt b p)
   ·rw [if_pos hf] at he
    have hb : byteAt b p < 128 := by have := (ZX _).1 hf; omega
    obtain ⟨d1, d2⟩ := decode_ascii hb
    have hc : decide (122 < ((Utf8.decode b p).1 : Int) ∨ ¬ fol ((Utf8.decode b p).1 : Int)) = false := by
     rw [d1]
     refine decide_eq_false ?_
     rintro (h1 | h1)
     ·have := (ZX _).1 hf; omega
     ·exact h1 hf
    rw [hc] at c
    repeat (first | ((first | (with_reducible (first | refine Qa fun K E hK hE => ?_ | refine Qp c ?_))); simp -implicitDefEqProofs only [Qe, Qf, OpW, QK, aop, AS.ev, ↓reduceIte, aBin, Xo, goInt, QgF, t1, t2, t10, hlt, d2, hbe, seval]) | (with_reducible (first | refine Qd fun K hK => ?_ | refine Qi ?_ | refine Qn ?_ | refine Qb ?_ | refine Qo ?_)) | ((with_reducible refine hK _ ?_); clear hK) | (refine Qg rfl ?_; simp only [↓reduceIte, QpQ]))
    refine QV.mk (m' := b.size - (p + 1)) (by omega) ?_
    rw [hI]
    exact ⟨p + 1, rfl, hlt, by rw [he, show n = b.size - (p + 1) by omega], t1, t2, t10, rfl⟩
   ·rw [if_neg hf] at he
    have hc : decide (122 < ((Utf8.decode b p).1 : Int) ∨ ¬ fol ((Utf8.decode b p).1 : Int)) = true := by
     refine decide_eq_true ?_
     by_cases hb : byteAt b p < 128
     ·right; rw [(decode_ascii hb).1]; exact hf
     ·left; have := QiX (s := b) (i := p) (by omega); omega
    rw [hc] at c
    repeat (first | ((first | (with_reducible (first | refine Qa fun K E hK hE => ?_ | refine Qp c ?_))); simp -implicitDefEqProofs only [Qe, Qf, OpW, QK, aop, AS.ev, ↓reduceIte, aBin, Xo, goInt, QgF, t1, t2, t10, hlt, hbe, seval]) | (with_reducible (first | refine Qd fun K hK => ?_ | refine Qi ?_ | refine Qj ?_ | refine Qn ?_ | refine Qb ?_ | refine Qq ?_ | refine Qs ?_)) | ((with_reducible refine hK _ ?_); clear hK) | (refine Qg rfl ?_; simp only [↓reduceIte]))
    simp only [QD, Ql, Qr, upd, ↓reduceIte, QpS, QpW]; first | refine Qc (htake _ _) (.keep (.v _)) ⟨by rw [he], rfl⟩ | refine Qc List.take_length (.keep (.v _)) ⟨by rw [he], rfl⟩
  ·rw [show b.size - p = 0 by omega, ixR] at he
   repeat (first | (((with_reducible refine Qa fun K E hK hE => ?_)); simp -implicitDefEqProofs only [Qe, Qf, OpW, aop, AS.ev, ↓reduceIte, Nat.reduceLT, Xo, QgF, t10, hlt]) | (with_reducible (first | refine Qd fun K hK => ?_ | refine Qj ?_ | refine QC ?_ | refine Qb ?_ | refine Qw ?_ | refine Qy ?_)) | ((with_reducible refine hK _ ?_); clear hK) | (clear hK; (with_reducible refine hK _ ?_); clear hK) | (refine Qg rfl ?_; simp only [↓reduceIte, QpQ]))
   simp only [QD, Ql, Qr, upd, ↓reduceIte, QpS, QpW]; first | refine Qc (htake _ _) (.keep (.v _)) ⟨by rw [he], rfl⟩ | refine Qc List.take_length (.keep (.v _)) ⟨by rw [he], rfl⟩
 ·rw [hI]
  exact ⟨0, by omega, Nat.zero_le _, rfl, rfl, rfl, rfl, rfl⟩
theorem QbT (b : ByteArray) (hs : b.size ≤ maxLen) : Pure Tryz.prog 143 [.v (.string b), .fn (.func 144) [] []] (.i (ixR b 0 b.size)) := by
 intro h
 have c := Qd6 b hs
 refine Qh Tryz.func143 rfl Tryz.call143 Tryz.ntmps143 (congrArg Array.toList Tryz.results143) (by simp) ?_
 repeat (first | ((first | (with_reducible (first | refine Qa fun K E hK hE => ?_ | refine Qp c ?_))); simp -implicitDefEqProofs only [Qe, Qf, OpW, QK, aop, undef, AS.ev, Qv, ↓reduceIte, seval]) | (with_reducible refine Qj ?_) | ((with_reducible refine hK _ ?_); clear hK))
 simp only [QD, Ql, Qr, upd, ↓reduceIte, QpS, QpW]; first | refine Qc (htake _ _) (.keep (.v _)) ⟨rfl, rfl⟩ | refine Qc List.take_length (.keep (.v _)) ⟨rfl, rfl⟩
def QbK (first : Int) (s : ByteArray) : Prop := 1 ≤ s.size ∧ s.size ≤ 40 ∧ ofN (byteAt s 0) = first ∧ Fol s
instance (first : Int) (s : ByteArray) : Decidable (QbK first s) := by unfold QbK; infer_instance
theorem QbX (s : ByteArray) : (s.toList == ({ data := #[] } : ByteArray).toList) = decide (s.size = 0) := by
 rw [Lib.toList_data, Lib.toList_data, Lib.size_eq]
 cases s.data.toList <;> simp
theorem QkJ (first : Int) (hf : first = 1 ∨ first = 2) (s : ByteArray) : Pure Tryz.prog 113 [.v (.string s), .v (.int .u8 first)] (.b (decide (QbK first s))) := by
 intro h
 have hsl := fun b => QbI Tryz.prog 9 3 (by kernel_rfl) b
 by_cases n0 : s.size = 0
 ·have d0 : (s.toList == ({ data := #[] } : ByteArray).toList) = true := by rw [QbX, decide_eq_true n0]
  refine Qh Tryz.func113 rfl Tryz.call113 Tryz.ntmps113 (congrArg Array.toList Tryz.results113) (by simp) ?_
  repeat (first | (((with_reducible refine Qa fun K E hK hE => ?_)); simp -implicitDefEqProofs only [Qe, Qf, OpW, aop, undef, AS.ev, Qv, ↓reduceIte, aBin, d0, seval]) | (with_reducible (first | refine Qd fun K hK => ?_ | refine Qj ?_ | refine Qq ?_)) | ((with_reducible refine hK _ ?_); clear hK) | (refine Qg rfl ?_; simp only [↓reduceIte]))
  simp only [QD, Ql, Qr, upd, ↓reduceIte, QpS, QpW]; first | refine Qc (htake _ _) (.keep (.v _)) ⟨by rw [decide_eq_false (fun h => by have := h.1; omega)], rfl⟩ | refine Qc List.take_length (.keep (.v _)) ⟨by rw [decide_eq_false (fun h => by have := h.1; omega)], rfl⟩
 ·have d0 : (s.toList == ({ data := #[] } : ByteArray).toList) = false := by rw [QbX, decide_eq_false n0]
  by_cases n1 : s.size ≤ 40
  ·have m1 : ¬ ((s.size : Int) > 40) := by omega
   have hix := QeL Tryz.prog 9 (by kernel_rfl) s (by omega)
   have hr := Qjj s 0
   have c := Qld (byteAt s 0) hr
   have ha : ∀ xo yo a, a = 0 ∨ a = 1 ∨ a = 2 ∨ a = 4 → pv Tryz.prog (do eqGuard .and 147 xo yo (.int .u8 a) (.int .u8 first); binOp .and 147 (.int .u8 a) (.int .u8 first)) = some (.int .u8 (if a = first then first else 0)) := by
    rcases hf with rfl | rfl <;> rintro xo yo a (rfl | rfl | rfl | rfl) <;> rfl
   have ha' := fun xo yo => ha xo yo (ofN (byteAt s 0)) (Qgx _)
   by_cases hc : ofN (byteAt s 0) = first
   ·have f0 : (first == 0) = false := by simp; omega
    have hsf := QmQ Tryz.prog 9 (by kernel_rfl) s 1 (by omega)
    have hsf' : pv Tryz.prog (Instr.sliceAt 9 (.string s) (some (.int .i64 1)) none none) = some (.string (s.extract 1 s.size)) := hsf
    have ci := QbT (s.extract 1 s.size) (by rw [Qgj]; simp only [maxLen]; omega)
    have hi : decide (ixR (s.extract 1 s.size) 0 (s.extract 1 s.size).size < 0) = decide (QbK first s) := by
     rw [decide_eq_decide, Qlz]
     simp only [Qgj, Qh1, QpY]
     constructor
     ·intro h1
      refine ⟨by omega, n1, hc, fun k hk => ?_⟩
      cases k with
      | zero => show ofN _ ≠ 0; rw [hc]; omega
      | succ k => exact h1 k (Nat.zero_le _) (by omega)
     ·rintro ⟨_, _, _, h4⟩ k _ hk
      exact h4 (k + 1) (by omega)
    rw [if_pos hc] at ha'
    refine Qh Tryz.func113 rfl Tryz.call113 Tryz.ntmps113 (congrArg Array.toList Tryz.results113) (by simp) ?_
    repeat (first | ((first | (with_reducible (first | refine Qa fun K E hK hE => ?_ | refine Qp c ?_ | refine Qp ci ?_))); simp -implicitDefEqProofs only [Qe, Qf, OpW, QK, aop, undef, AS.ev, Qv, ↓reduceIte, aBin, Z6, aLen, goInt, ei9, d0, hsl, m1, hix, ha', f0, hsf', seval]) | (with_reducible (first | refine Qd fun K hK => ?_ | refine Qj ?_ | refine Qn ?_ | refine Qb ?_)) | ((with_reducible refine hK _ ?_); clear hK) | (refine Qg rfl ?_; simp only [↓reduceIte, QpQ]))
    simp only [QD, Ql, Qr, upd, ↓reduceIte, QpS, QpW]; first | refine Qc (htake _ _) (.keep (.v _)) ⟨by rw [hi], rfl⟩ | refine Qc List.take_length (.keep (.v _)) ⟨by rw [hi], rfl⟩
   ·rw [if_neg hc] at ha'
    refine Qh Tryz.func113 rfl Tryz.call113 Tryz.ntmps113 (congrArg Array.toList Tryz.results113) (by simp) ?_
    repeat (first | ((first | (with_reducible (first | refine Qa fun K E hK hE => ?_ | refine Qp c ?_))); simp -implicitDefEqProofs only [Qe, Qf, OpW, QK, aop, undef, AS.ev, Qv, ↓reduceIte, aBin, aLen, goInt, d0, hsl, m1, hix, ha', seval]) | (with_reducible (first | refine Qd fun K hK => ?_ | refine Qj ?_ | refine Qq ?_)) | ((with_reducible refine hK _ ?_); clear hK) | (refine Qg rfl ?_; simp only [↓reduceIte]))
    simp only [QD, Ql, Qr, upd, ↓reduceIte, QpS, QpW]; first | refine Qc (htake _ _) (.keep (.v _)) ⟨by rw [decide_eq_false (fun h => hc h.2.2.1)], rfl⟩ | refine Qc List.take_length (.keep (.v _)) ⟨by rw [decide_eq_false (fun h => hc h.2.2.1)], rfl⟩
  ·have m1 : ((s.size : Int) > 40) := by omega
   refine Qh Tryz.func113 rfl Tryz.call113 Tryz.ntmps113 (congrArg Array.toList Tryz.results113) (by simp) ?_
   repeat (first | (((with_reducible refine Qa fun K E hK hE => ?_)); simp -implicitDefEqProofs only [Qe, Qf, OpW, aop, undef, AS.ev, Qv, ↓reduceIte, aBin, aLen, goInt, d0, hsl, m1, seval]) | (with_reducible (first | refine Qd fun K hK => ?_ | refine Qj ?_ | refine Qq ?_)) | ((with_reducible refine hK _ ?_); clear hK) | (refine Qg rfl ?_; simp only [↓reduceIte]))
   simp only [QD, Ql, Qr, upd, ↓reduceIte, QpS, QpW]; first | refine Qc (htake _ _) (.keep (.v _)) ⟨by rw [decide_eq_false (fun h => by have := h.2.1; omega)], rfl⟩ | refine Qc List.take_length (.keep (.v _)) ⟨by rw [decide_eq_false (fun h => by have := h.2.1; omega)], rfl⟩
end Go.Proofs.YtniljpjjnmkoaaaGreatDoor.Ab
namespace Go.Proofs
open Go.Shelf
def Tryz.lays156_ren : Go.Shelf.Ren := ⟨fun | 156 => 60 | 165 => 105 | 166 => 106 | 169 => 107 | 240 => 137 | 241 => 138 | 276 => 153 | 277 => 154 | n => n, fun | 31 => 92 | 9 => 9 | 3 => 3 | 4 => 4 | 0 => 0 | 20 => 20 | 72 => 136 | 76 => 140 | 70 => 133 | 37 => 134 | 75 => 139 | 127 => 166 | 164 => 181 | 5 => 5 | 80 => 142 | n => n, fun | n => n⟩
theorem Tryz.lays156 : Go.Proofs.Lays.n156 Tryz.prog Tryz.lays156_ren := {
 mixed := by kernel_rfl
 f156 := Tryz.func60.trans (congrArg some (by kernel_rfl))
 f165 := Tryz.func105.trans (congrArg some (by kernel_rfl))
 f166 := Tryz.func106.trans (congrArg some (by kernel_rfl))
 f169 := Tryz.func107.trans (congrArg some (by kernel_rfl))
 f240 := Tryz.func137.trans (congrArg some (by kernel_rfl))
 f241 := Tryz.func138.trans (congrArg some (by kernel_rfl))
 f276 := Tryz.func153.trans (congrArg some (by kernel_rfl))
 f277 := Tryz.func154.trans (congrArg some (by kernel_rfl))
 t0 := Tryz.underlying0
 a0 := Tryz.isAgg0
 z0 := Tryz.sizeOf0
 v0 := Tryz.zeroValue0
 t3 := Tryz.underlying3
 a3 := Tryz.isAgg3
 z3 := Tryz.sizeOf3
 v3 := Tryz.zeroValue3
 t4 := Tryz.underlying4
 a4 := Tryz.isAgg4
 z4 := Tryz.sizeOf4
 v4 := Tryz.zeroValue4
 t9 := Tryz.underlying9
 a9 := Tryz.isAgg9
 z9 := Tryz.sizeOf9
 v9 := Tryz.zeroValue9
 t20 := Tryz.underlying20
 a20 := Tryz.isAgg20
 z20 := Tryz.sizeOf20
 v20 := Tryz.zeroValue20
 t31 := Tryz.underlying92
 a31 := Tryz.isAgg92
 z31 := Tryz.sizeOf92
 v31 := Tryz.zeroValue92
 t37 := Tryz.underlying134
 a37 := Tryz.isAgg134
 z37 := Tryz.sizeOf134
 v37 := Tryz.zeroValue134
 t70 := Tryz.underlying133
 a70 := Tryz.isAgg133
 z70 := Tryz.sizeOf133
 v70 := Tryz.zeroValue133
 t72 := Tryz.underlying136
 a72 := Tryz.isAgg136
 z72 := Tryz.sizeOf136
 v72 := Tryz.zeroValue136
 t75 := Tryz.underlying139
 a75 := Tryz.isAgg139
 z75 := Tryz.sizeOf139
 v75 := Tryz.zeroValue139
 t76 := Tryz.underlying140
 a76 := Tryz.isAgg140
 z76 := Tryz.sizeOf140
 v76 := Tryz.zeroValue140
 t127 := Tryz.underlying166
 a127 := Tryz.isAgg166
 z127 := Tryz.sizeOf166
 v127 := Tryz.zeroValue166
 t164 := Tryz.underlying181
 a164 := Tryz.isAgg181
 z164 := Tryz.sizeOf181
 v164 := Tryz.zeroValue181 }
theorem Tryz.Builder_Extra_156 : Builder.Extra Tryz.prog Tryz.lays156_ren := {
 sizeBuilder := by kernel_rfl
 liesBuilder := by kernel_rfl
 t5 := Tryz.underlying5
 a5 := Tryz.isAgg5
 z5 := Tryz.sizeOf5
 v5 := Tryz.zeroValue5
 infoByte := by kernel_rfl
 cellsByte := by kernel_rfl
 sizeByte := by kernel_rfl
 neB5 := by decide }
theorem Tryz.strings_Join_none (a : Option Addr) (c : Nat) (sep : ByteArray) (w : World) :
  Calls Tryz.prog 60 #[.slice a 0 c, .string sep] w fun e w' => e = .returned (.string ⟨#[]⟩) ∧ w' = w := Any.strings_Join_none Tryz.lays156 Tryz.Builder_Extra_156 a c sep w
open Go.RowKit in
theorem Tryz.strings_Join (bk o c : Nat) (xs : List ByteArray) (sep : ByteArray) (w : World) (hcells : ∀ (j : Nat) x, xs[j]? = some x → w.cell? ⟨bk, o + j, none⟩ = some (.string x)) (hbk : bk < w.heap.size) (hN : xs.length ≤ 140737488355328) (hcap : xs.length ≤ c) (hlen : (Lib.join (xs.map (·.data.toList)) sep.data.toList).length ≤ 140737488355328) :
  Calls Tryz.prog 60 #[.slice (some ⟨bk, o, none⟩) xs.length c, .string sep] w fun e w' => e = .returned (.string ⟨(Lib.join (xs.map (·.data.toList)) sep.data.toList).toArray⟩) ∧ Below w.heap.size w w' := Any.strings_Join Tryz.lays156 Tryz.Builder_Extra_156 bk o c xs sep w hcells hbk hN hcap hlen
def Tryz.Qph : Go.Shelf.Ren := ⟨fun | 125 => 148 | 128 => 165 | 129 => 166 | n => n, fun | 46 => 176 | 3 => 3 | 51 => 193 | 53 => 195 | 4 => 4 | 5 => 5 | 9 => 9 | n => n, fun | n => n⟩
theorem Tryz.lays125 : Go.Proofs.Lays.n125 Tryz.prog Tryz.Qph := {
 mixed := by kernel_rfl
 f125 := Tryz.func148.trans (congrArg some (by kernel_rfl))
 f128 := Tryz.func165.trans (congrArg some (by kernel_rfl))
 f129 := Tryz.func166.trans (congrArg some (by kernel_rfl))
 t3 := Tryz.underlying3
 a3 := Tryz.isAgg3
 z3 := Tryz.sizeOf3
 v3 := Tryz.zeroValue3
 t4 := Tryz.underlying4
 a4 := Tryz.isAgg4
 z4 := Tryz.sizeOf4
 v4 := Tryz.zeroValue4
 t5 := Tryz.underlying5
 a5 := Tryz.isAgg5
 z5 := Tryz.sizeOf5
 v5 := Tryz.zeroValue5
 t9 := Tryz.underlying9
 a9 := Tryz.isAgg9
 z9 := Tryz.sizeOf9
 v9 := Tryz.zeroValue9
 t46 := Tryz.underlying176
 a46 := Tryz.isAgg176
 z46 := Tryz.sizeOf176
 v46 := Tryz.zeroValue176
 t51 := Tryz.underlying193
 a51 := Tryz.isAgg193
 z51 := Tryz.sizeOf193
 v51 := Tryz.zeroValue193
 t53 := Tryz.underlying195
 a53 := Tryz.isAgg195
 z53 := Tryz.sizeOf195
 v53 := Tryz.zeroValue195 }
theorem Tryz.bits_Len (x : Int) (w : World) (h0 : 0 ≤ x) (h1 : x ≤ 18446744073709551615) :
  Calls Tryz.prog 148 #[.int .u64 x] w fun e w' => e = .returned (.int .i64 (Lib.bitLen x.toNat)) ∧ w' = w := Any.bits_Len Tryz.lays125 x w h0 h1
def Tryz.Qpf : Go.Shelf.Ren := ⟨fun | 171 => 99 | 243 => 131 | 246 => 150 | 283 => 168 | 284 => 169 | 285 => 170 | 286 => 171 | 129 => 166 | 317 => 178 | 318 => 179 | 319 => 180 | 320 => 181 | 337 => 187 | 338 => 188 | n => n, fun | 3 => 3 | 9 => 9 | 2 => 2 | 4 => 4 | 171 => 196 | 0 => 0 | 53 => 195 | 37 => 134 | 5 => 5 | 173 => 198 | 212 => 207 | 51 => 193 | 20 => 20 | 213 => 208 | 46 => 176 | 232 => 215 | 233 => 216 | n => n, fun | 17 => 1 | 18 => 2 | 19 => 3 | n => n⟩
theorem Tryz.laysM171 : Go.Proofs.LaysM.n171 Tryz.prog Tryz.Qpf := {
 mixed := by kernel_rfl
 f129 := Tryz.func166.trans (congrArg some (by kernel_rfl))
 f171 := Tryz.func99.trans (congrArg some (by kernel_rfl))
 f243 := Tryz.func131.trans (congrArg some (by kernel_rfl))
 f246 := Tryz.func150.trans (congrArg some (by kernel_rfl))
 f283 := Tryz.func168.trans (congrArg some (by kernel_rfl))
 f284 := Tryz.func169.trans (congrArg some (by kernel_rfl))
 f285 := Tryz.func170.trans (congrArg some (by kernel_rfl))
 f286 := Tryz.func171.trans (congrArg some (by kernel_rfl))
 f317 := Tryz.func178.trans (congrArg some (by kernel_rfl))
 f318 := Tryz.func179.trans (congrArg some (by kernel_rfl))
 f319 := Tryz.func180.trans (congrArg some (by kernel_rfl))
 f320 := Tryz.func181.trans (congrArg some (by kernel_rfl))
 f337 := Tryz.func187.trans (congrArg some (by kernel_rfl))
 f338 := Tryz.func188.trans (congrArg some (by kernel_rfl))
 t0 := Tryz.underlying0
 a0 := Tryz.isAgg0
 z0 := Tryz.sizeOf0
 v0 := Tryz.zeroValue0
 t2 := Tryz.underlying2
 a2 := Tryz.isAgg2
 z2 := Tryz.sizeOf2
 v2 := Tryz.zeroValue2
 t3 := Tryz.underlying3
 a3 := Tryz.isAgg3
 z3 := Tryz.sizeOf3
 v3 := Tryz.zeroValue3
 t4 := Tryz.underlying4
 a4 := Tryz.isAgg4
 z4 := Tryz.sizeOf4
 v4 := Tryz.zeroValue4
 t5 := Tryz.underlying5
 a5 := Tryz.isAgg5
 z5 := Tryz.sizeOf5
 v5 := Tryz.zeroValue5
 t9 := Tryz.underlying9
 a9 := Tryz.isAgg9
 z9 := Tryz.sizeOf9
 v9 := Tryz.zeroValue9
 t20 := Tryz.underlying20
 a20 := Tryz.isAgg20
 z20 := Tryz.sizeOf20
 v20 := Tryz.zeroValue20
 t37 := Tryz.underlying134
 a37 := Tryz.isAgg134
 z37 := Tryz.sizeOf134
 v37 := Tryz.zeroValue134
 t46 := Tryz.underlying176
 a46 := Tryz.isAgg176
 z46 := Tryz.sizeOf176
 v46 := Tryz.zeroValue176
 t51 := Tryz.underlying193
 a51 := Tryz.isAgg193
 z51 := Tryz.sizeOf193
 v51 := Tryz.zeroValue193
 t53 := Tryz.underlying195
 a53 := Tryz.isAgg195
 z53 := Tryz.sizeOf195
 v53 := Tryz.zeroValue195
 t171 := Tryz.underlying196
 a171 := Tryz.isAgg196
 z171 := Tryz.sizeOf196
 v171 := Tryz.zeroValue196
 t173 := Tryz.underlying198
 a173 := Tryz.isAgg198
 z173 := Tryz.sizeOf198
 v173 := Tryz.zeroValue198
 t212 := Tryz.underlying207
 a212 := Tryz.isAgg207
 z212 := Tryz.sizeOf207
 v212 := Tryz.zeroValue207
 t213 := Tryz.underlying208
 a213 := Tryz.isAgg208
 z213 := Tryz.sizeOf208
 t232 := Tryz.underlying215
 a232 := Tryz.isAgg215
 z232 := Tryz.sizeOf215
 v232 := Tryz.zeroValue215
 t233 := Tryz.underlying216
 a233 := Tryz.isAgg216
 z233 := Tryz.sizeOf216
 v233 := Tryz.zeroValue216
 g17 := by kernel_rfl
 g18 := by kernel_rfl
 g19 := by kernel_rfl
 i0 := by kernel_rfl
 i2 := by kernel_rfl
 i3 := by kernel_rfl
 i4 := by kernel_rfl
 i5 := by kernel_rfl
 i9 := by kernel_rfl
 i20 := by kernel_rfl
 i37 := by kernel_rfl
 i46 := by kernel_rfl
 i51 := by kernel_rfl
 i53 := by kernel_rfl
 i171 := by kernel_rfl
 i173 := by kernel_rfl
 i212 := by kernel_rfl
 i232 := by kernel_rfl
 i233 := by kernel_rfl
 m17 := by kernel_rfl
 m18 := by kernel_rfl
 m19 := by kernel_rfl }
open Go.RowKit Go.Sort Go.Lib in
theorem Tryz.strconv_Itoa (n : Int) (h0 : -9223372036854775808 ≤ n) (h1 : n ≤ 9223372036854775807) (w : World) (htab : Lib.TabIs Tryz.prog w "internal/strconv.uint64pow10" .u64 Lib.pow10Tab) :
  Calls Tryz.prog 99 #[.int .i64 n] w fun e w' => e = .returned (.string ⟨(Lib.itoa n).toArray⟩) ∧ ∃ k os, w' = grow (w.drewN k) os := Any.strconv_Itoa Tryz.laysM171 n h0 h1 w htab
def Tryz.Qpg : Go.Shelf.Ren := ⟨fun | 144 => 149 | 143 => 167 | 219 => 177 | 217 => 183 | 225 => 184 | 224 => 185 | 267 => 186 | 266 => 189 | 314 => 190 | n => n, fun | 9 => 9 | 4 => 4 | 3 => 3 | 5 => 5 | 46 => 176 | 146 => 213 | 51 => 193 | n => n, fun | 1 => 0 | n => n⟩
theorem Tryz.lays144 : Go.Proofs.Lays.n144 Tryz.prog Tryz.Qpg := {
 mixed := by kernel_rfl
 f143 := Tryz.func167.trans (congrArg some (by kernel_rfl))
 f144 := Tryz.func149.trans (congrArg some (by kernel_rfl))
 f217 := Tryz.func183.trans (congrArg some (by kernel_rfl))
 f219 := Tryz.func177.trans (congrArg some (by kernel_rfl))
 f224 := Tryz.func185.trans (congrArg some (by kernel_rfl))
 f225 := Tryz.func184.trans (congrArg some (by kernel_rfl))
 f266 := Tryz.func189.trans (congrArg some (by kernel_rfl))
 f267 := Tryz.func186.trans (congrArg some (by kernel_rfl))
 f314 := Tryz.func190.trans (congrArg some (by kernel_rfl))
 t3 := Tryz.underlying3
 a3 := Tryz.isAgg3
 z3 := Tryz.sizeOf3
 v3 := Tryz.zeroValue3
 t4 := Tryz.underlying4
 a4 := Tryz.isAgg4
 z4 := Tryz.sizeOf4
 v4 := Tryz.zeroValue4
 t5 := Tryz.underlying5
 a5 := Tryz.isAgg5
 z5 := Tryz.sizeOf5
 v5 := Tryz.zeroValue5
 t9 := Tryz.underlying9
 a9 := Tryz.isAgg9
 z9 := Tryz.sizeOf9
 v9 := Tryz.zeroValue9
 t46 := Tryz.underlying176
 a46 := Tryz.isAgg176
 z46 := Tryz.sizeOf176
 v46 := Tryz.zeroValue176
 t51 := Tryz.underlying193
 a51 := Tryz.isAgg193
 z51 := Tryz.sizeOf193
 v51 := Tryz.zeroValue193
 t146 := Tryz.underlying213
 a146 := Tryz.isAgg213
 z146 := Tryz.sizeOf213
 v146 := Tryz.zeroValue213
 g1 := by kernel_rfl }
theorem Tryz.strings_Contains_one (s : ByteArray) (c : UInt8) (w : World) :
  Calls Tryz.prog 149 #[.string s, .string ⟨#[c]⟩] w fun e w' => e = .returned (.bool (decide (0 ≤ Lib.indexByte s.data.toList c))) ∧ w' = w := Any.strings_Contains_one Tryz.lays144 s c w
end Go.Proofs
namespace Go.Proofs.YtniljpjjnmkoaaaGreatDoor.Ab
inductive Alt where
 | done
 | stop
 | alt (i c : Nat) (sub more : Alt)
section
variable (P : Program) (N : Nat) (ops : Array Oper) (K : AS → Prop) (s : AS)
end
theorem QdJ {P : Program} {N : Nat} {ops : Array Oper} {K : AS → Prop} : ∀ (l1 l2 : List (Nat × Nat)), AnyW P N ops (l1 ++ l2) K = AnyW P N ops l1 (AnyW P N ops l2 K)
 | [], l2 => funext fun s => rfl
 | p :: l1, l2 => by
  funext s
  show (match ops[p.1]? with | some o => AnyO P N ops p.2 o s (AnyW P N ops (l1 ++ l2) K) | none => False) = (match ops[p.1]? with | some o => AnyO P N ops p.2 o s (AnyW P N ops l1 (AnyW P N ops l2 K)) | none => False)
  rw [QdJ l1 l2]
theorem QQ {P : Program} {N : Nat} {ops : Array Oper} {l : List (Nat × Nat)} {K : AS → Prop} {s : AS} (k : Nat) (h : ∀ K' : AS → Prop, (∀ s, AnyW P N ops (l.drop k) K s → K' s) → AnyW P N ops (l.take k) K' s) : AnyW P N ops l K s := by
 have := h (AnyW P N ops (l.drop k) K) fun s hs => hs
 rw [← QdJ, List.take_append_drop] at this
 exact this
theorem Yb {P : Program} {N : Nat} {x y : Code} {Q : AExit → AS → Prop} {s : AS} (J : AS → Prop) (h1 : ∀ s, J s → Xz P N y Q s) (h2 : Xz P N x (AExit.then J Q) s) : Xz P N (.seq x y) Q s := by
 refine Qbg (h2.mono fun e s' hq => ?_)
 cases e with
 | normal => exact h1 s' hq
 | _ => exact hq
end Go.Proofs.YtniljpjjnmkoaaaGreatDoor.Ab
set_option maxRecDepth 4000
namespace Go.Proofs.YtniljpjjnmkoaaaGreatDoor.Ab
open Go.Proofs
theorem Qep (s : ByteArray) : Pure Tryz.prog 69 [.v (.string s)] (.b (decide (QbK 1 s) && !resB s)) := by
 intro h
 have c := QkJ 1 (.inl rfl) s
 have cr := QeZ s
 cases hw : decide (QbK 1 s) with
 | false =>
  rw [hw] at c
  refine Qh Tryz.func69 rfl Tryz.call69 Tryz.ntmps69 (congrArg Array.toList Tryz.results69) (by simp) ?_
  repeat (first | ((first | (with_reducible (first | refine Qa fun K E hK hE => ?_ | refine Qp c ?_))); simp -implicitDefEqProofs only [Qe, Qf, OpW, QK, aop, undef, AS.ev, Qv, ↓reduceIte, seval]) | (with_reducible refine Qj ?_) | ((with_reducible refine hK _ ?_); clear hK))
  simp only [QD, Ql, Qr, upd, ↓reduceIte, QpS, QpW]; first | refine Qc (htake _ _) (.keep (.v _)) ⟨rfl, rfl⟩ | refine Qc List.take_length (.keep (.v _)) ⟨rfl, rfl⟩
 | true =>
  rw [hw] at c
  refine Qh Tryz.func69 rfl Tryz.call69 Tryz.ntmps69 (congrArg Array.toList Tryz.results69) (by simp) ?_
  repeat (first | ((first | (with_reducible (first | refine Qa fun K E hK hE => ?_ | refine Qp c ?_ | refine Qp cr ?_))); simp -implicitDefEqProofs only [Qe, Qf, OpW, QK, aop, undef, AS.ev, Qv, ↓reduceIte, seval]) | (with_reducible refine Qj ?_) | ((with_reducible refine hK _ ?_); clear hK))
  simp only [QD, Ql, Qr, upd, ↓reduceIte, QpS, QpW]; first | refine Qc (htake _ _) (.keep (.v _)) ⟨rfl, rfl⟩ | refine Qc List.take_length (.keep (.v _)) ⟨rfl, rfl⟩
theorem QjU (c : Int) : ofN c = 1 ↔ 97 ≤ c ∧ c ≤ 122 := by
 unfold ofN
 repeat' split
 all_goals (constructor <;> intro _ <;> first | omega | assumption | trivial | contradiction)
def Zd (s : ByteArray) : Prop := 1 ≤ s.size ∧ s.size ≤ 40 ∧ Fol s
instance (s : ByteArray) : Decidable (Zd s) := by unfold Zd; infer_instance
theorem Qgy (b : ByteArray) (hb : b.size ≤ maxLen) : Pure Tryz.prog 86 [.v (.string b)] (.b (decide (Zd b))) := by
 intro h
 have hsl := fun b => QbI Tryz.prog 9 3 (by kernel_rfl) b
 have hbm : b.size ≤ 9223372036854775807 := hb
 refine Qh Tryz.func86 rfl Tryz.call86 Tryz.ntmps86 (congrArg Array.toList Tryz.results86) (by simp) ?_
 repeat (first | (((with_reducible refine Qa fun K E hK hE => ?_)); simp -implicitDefEqProofs only [Qe, Qf, OpW, aop, AS.ev, Nat.reduceLT]) | (with_reducible (first | refine Qd fun K hK => ?_ | refine Qi ?_)) | ((with_reducible refine hK _ ?_); clear hK))
 obtain ⟨I, hI⟩ : ∃ I : Nat → AS → Prop, I = fun m' s => ∃ (p : Nat), m' = b.size - p ∧ p ≤ b.size ∧ (∀ k, k < p → fol (byteAt b k)) ∧ s.tm 0 = .v (.string b) ∧ s.tm 3 = .i p ∧ s.h = h := ⟨_, rfl⟩; refine QI I ?_ (m := b.size) ?_
 ·intro m' s hs; rw [hI] at hs; obtain ⟨tm, hp⟩ := s; dsimp only at hs; obtain ⟨p, rfl, hp', he, t0, t3, rfl⟩ := hs
  by_cases hlt : p < b.size
  ·have hix := QgI Tryz.prog 9 (by kernel_rfl) b p hlt
   have c1 := Qbe (byteAt b p)
   have c2 := QeS (byteAt b p)
   have onw : fol (byteAt b p) → ∀ k, k < p + 1 → fol (byteAt b k) := fun hf k hk => by
    rcases Nat.lt_or_ge k p with h' | h'
    ·exact he k h'
    ·have : k = p := by omega
     rw [this]; exact hf
   have stop : ¬ fol (byteAt b p) → decide (Zd b) = false := fun hf => decide_eq_false fun h => hf (h.2.2 p hlt)
   iterate 9 (try (first | (((with_reducible refine Qa fun K E hK hE => ?_)); simp -implicitDefEqProofs only [Qe, Qf, OpW, aop, AS.ev, ↓reduceIte, aBin, aLen, goInt, t0, t3, hsl, hlt, seval]) | (with_reducible (first | refine Qd fun K hK => ?_ | refine Qi ?_ | refine Qn ?_ | refine Qb ?_)) | ((with_reducible refine hK _ ?_); clear hK) | (refine Qg rfl ?_; simp only [↓reduceIte])))
   refine Yb (fun s => s.tm 39 = .b (decide (¬ fol (byteAt b p))) ∧ s.tm 0 = .v (.string b) ∧ s.tm 3 = .i p ∧ s.h = hp) ?_ ?_
   ·rintro ⟨tm, hq⟩ ⟨t39, t0, t3, rfl⟩
    dsimp only at t39 t0 t3
    by_cases hf : fol (byteAt b p)
    ·rw [decide_eq_false (fun h => h hf)] at t39
     refine Qg (by exact t39) ?_
     simp only [↓reduceIte, QpQ]
     repeat (first | (((with_reducible refine Qk fun K E hK hE => ?_)); simp -implicitDefEqProofs only [Qe, Qf, OpW, aop, AS.ev, ↓reduceIte, Nat.reduceLT, aBin, t3]) | (with_reducible (first | refine Qn ?_ | refine Qb ?_ | refine Qo ?_)) | ((with_reducible refine hK _ ?_); clear hK))
     refine QV.mk (m' := b.size - (p + 1)) (by omega) ?_
     rw [hI]
     refine ⟨p + 1, rfl, hlt, onw hf, t0, ?_, rfl⟩
     simp only [upd, ↓reduceIte]
     rw [QP (by omega)]
    ·rw [decide_eq_true hf] at t39
     refine Qg (by exact t39) ?_
     simp only [↓reduceIte]
     repeat (first | (((with_reducible refine Qa fun K E hK hE => ?_)); simp -implicitDefEqProofs only [Q4, Q2, Qf, OpW, aop, AS.ev, Q6, Xq, Nat.reduceLT]) | (with_reducible (first | refine Qj ?_ | refine Qq ?_ | refine Qs ?_)) | ((with_reducible refine hK _ ?_); clear hK))
     simp only [QD, Ql, Qr, upd, ↓reduceIte, QpS, QpW]
     exact Qc List.take_length (.keep (.v _)) ⟨by rw [stop hf], rfl⟩
   ·refine Qk fun K E hK hE => ?_
    by_cases hl : 97 ≤ byteAt b p ∧ byteAt b p ≤ 122
    ·rw [decide_eq_true hl] at c1
     have hv : decide (¬ fol (byteAt b p)) = false := decide_eq_false fun h => h ((ZX _).2 (.inl hl))
     (try simp only [Qqn]); refine QE 6 (fun K1 hK1 => ?_); simp -implicitDefEqProofs only [Qe, Qf, OpW, aop, AS.ev, ↓reduceIte, t0, t3, hix, seval]; (repeat ((((with_reducible refine Qp c1 ?_)); simp -implicitDefEqProofs only [Qe, Qf, OpW, QK, aop, AS.ev, ↓reduceIte, Nat.reduceLT]))); refine hK1 _ ?_; clear hK1
     (try simp only [QpV, Qp3]); refine QE 7 (fun K1 hK1 => ?_); simp -implicitDefEqProofs only [Qe, Qf, OpW, aop, undef, AS.ev, ↓reduceIte, seval]; (repeat ((((with_reducible refine Qa fun K E hK hE => ?_)); simp -implicitDefEqProofs only [Qe, Qf, OpW, QK, aop, undef, Qcg, AS.ev, Qv, AV.QoY, ↓reduceIte, aBin, aLen, goInt, ti3, zi3, un3, ti4, zi4, un4, ti5, zi5, un5, ti9, ei9, zi9, un9, Qqz, Int.sub_zero, QgF, QS, t0, t3, hix, seval]))); refine hK1 _ ?_; clear hK1
     (try simp only [QpV, Qp3]); refine QE 5 (fun K1 hK1 => ?_); simp -implicitDefEqProofs only [Qe, Qf, undef, ↓reduceIte, seval]; refine hK1 _ ?_; clear hK1
     (try simp only [QpV, Qp3]); refine QE 6 (fun K1 hK1 => ?_); simp -implicitDefEqProofs only [Qe, Qf, OpW, aop, undef, AS.ev, ↓reduceIte, seval]; refine hK1 _ ?_; clear hK1
     (try simp only [QpV, Qp3])
     simp -implicitDefEqProofs only [Qe, Qf, OpW, aop, undef, AS.ev, ↓reduceIte, seval]
     repeat (first | (with_reducible refine Qb ?_) | ((with_reducible refine hK _ ?_); clear hK))
     (try (refine hK _ ?_; rw [Ym]))
     exact ⟨by rw [hv]; rfl, t0, t3, rfl⟩
    ·rw [decide_eq_false hl] at c1
     by_cases hu : 65 ≤ byteAt b p ∧ byteAt b p ≤ 90
     ·rw [decide_eq_true hu] at c2
      have hv : decide (¬ fol (byteAt b p)) = false := decide_eq_false fun h => h ((ZX _).2 (.inr (.inl hu)))
      (try simp only [Qqn]); refine QE 6 (fun K1 hK1 => ?_); simp -implicitDefEqProofs only [Qe, Qf, OpW, aop, AS.ev, ↓reduceIte, t0, t3, hix, seval]; (repeat ((((with_reducible refine Qp c1 ?_)); simp -implicitDefEqProofs only [Qe, Qf, OpW, QK, aop, AS.ev, ↓reduceIte, Nat.reduceLT]))); refine hK1 _ ?_; clear hK1
      (try simp only [QpV, Qp3]); refine QE 7 (fun K1 hK1 => ?_); simp -implicitDefEqProofs only [Qe, Qf, OpW, aop, AS.ev, ↓reduceIte, t0, t3, hix, seval]; (repeat ((((with_reducible refine Qp c2 ?_)); simp -implicitDefEqProofs only [Qe, Qf, OpW, QK, aop, AS.ev, ↓reduceIte, seval]))); refine hK1 _ ?_; clear hK1
      (try simp only [QpV, Qp3]); refine QE 5 (fun K1 hK1 => ?_); simp -implicitDefEqProofs only [Qe, Qf, undef, ↓reduceIte, seval]; refine hK1 _ ?_; clear hK1
      (try simp only [QpV, Qp3]); refine QE 6 (fun K1 hK1 => ?_); simp -implicitDefEqProofs only [Qe, Qf, OpW, aop, undef, AS.ev, ↓reduceIte, seval]; refine hK1 _ ?_; clear hK1
      (try simp only [QpV, Qp3])
      simp -implicitDefEqProofs only [Qe, Qf, OpW, aop, undef, AS.ev, ↓reduceIte, seval]
      repeat (first | (with_reducible refine Qb ?_) | ((with_reducible refine hK _ ?_); clear hK))
      (try (refine hK _ ?_; rw [Ym]))
      exact ⟨by rw [hv]; rfl, t0, t3, rfl⟩
     ·rw [decide_eq_false hu] at c2
      by_cases d1 : byteAt b p < 48
      ·have q' : (byteAt b p != 95) = true := by simp; omega
       have hv : decide (¬ fol (byteAt b p)) = true := decide_eq_true fun hf => by have := (ZX _).1 hf; omega
       (try simp only [Qqn]); refine QE 6 (fun K1 hK1 => ?_); simp -implicitDefEqProofs only [Qe, Qf, OpW, aop, AS.ev, ↓reduceIte, t0, t3, hix, seval]; (repeat ((((with_reducible refine Qp c1 ?_)); simp -implicitDefEqProofs only [Qe, Qf, OpW, QK, aop, AS.ev, ↓reduceIte, Nat.reduceLT]))); refine hK1 _ ?_; clear hK1
       (try simp only [QpV, Qp3]); refine QE 7 (fun K1 hK1 => ?_); simp -implicitDefEqProofs only [Qe, Qf, OpW, aop, AS.ev, ↓reduceIte, t0, t3, hix, seval]; (repeat ((((with_reducible refine Qp c2 ?_)); simp -implicitDefEqProofs only [Qe, Qf, OpW, QK, aop, AS.ev, ↓reduceIte, seval]))); refine hK1 _ ?_; clear hK1
       (try simp only [QpV, Qp3]); refine QE 5 (fun K1 hK1 => ?_); simp -implicitDefEqProofs only [Qe, Qf, OpW, aop, AS.ev, ↓reduceIte, aBin, t0, t3, hix, d1, seval]; refine hK1 _ ?_; clear hK1
       (try simp only [QpV, Qp3]); refine QE 6 (fun K1 hK1 => ?_); simp -implicitDefEqProofs only [Qe, Qf, OpW, aop, undef, AS.ev, ↓reduceIte, seval]; refine hK1 _ ?_; clear hK1
       (try simp only [QpV, Qp3])
       simp -implicitDefEqProofs only [Qe, Qf, OpW, aop, AS.ev, ↓reduceIte, aBin, t0, t3, hix, q', seval]
       repeat (first | (with_reducible refine Qb ?_) | ((with_reducible refine hK _ ?_); clear hK))
       (try (refine hK _ ?_; rw [Ym]))
       exact ⟨by rw [hv]; rfl, t0, t3, rfl⟩
      ·by_cases d2 : byteAt b p > 57
       ·by_cases q : byteAt b p = 95
        ·have q' : (byteAt b p != 95) = false := by simp [q]
         have hv : decide (¬ fol (byteAt b p)) = false := decide_eq_false fun h => h ((ZX _).2 (.inr (.inr (.inl q))))
         (try simp only [Qqn]); refine QE 6 (fun K1 hK1 => ?_); simp -implicitDefEqProofs only [Qe, Qf, OpW, aop, AS.ev, ↓reduceIte, t0, t3, hix, seval]; (repeat ((((with_reducible refine Qp c1 ?_)); simp -implicitDefEqProofs only [Qe, Qf, OpW, QK, aop, AS.ev, ↓reduceIte, Nat.reduceLT]))); refine hK1 _ ?_; clear hK1
         (try simp only [QpV, Qp3]); refine QE 7 (fun K1 hK1 => ?_); simp -implicitDefEqProofs only [Qe, Qf, OpW, aop, AS.ev, ↓reduceIte, t0, t3, hix, seval]; (repeat ((((with_reducible refine Qp c2 ?_)); simp -implicitDefEqProofs only [Qe, Qf, OpW, QK, aop, AS.ev, ↓reduceIte, seval]))); refine hK1 _ ?_; clear hK1
         (try simp only [QpV, Qp3]); refine QE 5 (fun K1 hK1 => ?_); simp -implicitDefEqProofs only [Qe, Qf, OpW, aop, AS.ev, ↓reduceIte, aBin, t0, t3, hix, d1, seval]; refine hK1 _ ?_; clear hK1
         (try simp only [QpV, Qp3]); refine QE 6 (fun K1 hK1 => ?_); simp -implicitDefEqProofs only [Qe, Qf, OpW, aop, AS.ev, ↓reduceIte, aBin, t0, t3, hix, d2, seval]; refine hK1 _ ?_; clear hK1
         (try simp only [QpV, Qp3])
         simp -implicitDefEqProofs only [Qe, Qf, OpW, aop, AS.ev, ↓reduceIte, aBin, t0, t3, hix, q', seval]
         repeat (first | (with_reducible refine Qb ?_) | ((with_reducible refine hK _ ?_); clear hK))
         (try (refine hK _ ?_; rw [Ym]))
         exact ⟨by rw [hv]; rfl, t0, t3, rfl⟩
        ·have q' : (byteAt b p != 95) = true := by simp [q]
         have hv : decide (¬ fol (byteAt b p)) = true := decide_eq_true fun hf => by have := (ZX _).1 hf; omega
         (try simp only [Qqn]); refine QE 6 (fun K1 hK1 => ?_); simp -implicitDefEqProofs only [Qe, Qf, OpW, aop, AS.ev, ↓reduceIte, t0, t3, hix, seval]; (repeat ((((with_reducible refine Qp c1 ?_)); simp -implicitDefEqProofs only [Qe, Qf, OpW, QK, aop, AS.ev, ↓reduceIte, Nat.reduceLT]))); refine hK1 _ ?_; clear hK1
         (try simp only [QpV, Qp3]); refine QE 7 (fun K1 hK1 => ?_); simp -implicitDefEqProofs only [Qe, Qf, OpW, aop, AS.ev, ↓reduceIte, t0, t3, hix, seval]; (repeat ((((with_reducible refine Qp c2 ?_)); simp -implicitDefEqProofs only [Qe, Qf, OpW, QK, aop, AS.ev, ↓reduceIte, seval]))); refine hK1 _ ?_; clear hK1
         (try simp only [QpV, Qp3]); refine QE 5 (fun K1 hK1 => ?_); simp -implicitDefEqProofs only [Qe, Qf, OpW, aop, AS.ev, ↓reduceIte, aBin, t0, t3, hix, d1, seval]; refine hK1 _ ?_; clear hK1
         (try simp only [QpV, Qp3]); refine QE 6 (fun K1 hK1 => ?_); simp -implicitDefEqProofs only [Qe, Qf, OpW, aop, AS.ev, ↓reduceIte, aBin, t0, t3, hix, d2, seval]; refine hK1 _ ?_; clear hK1
         (try simp only [QpV, Qp3])
         simp -implicitDefEqProofs only [Qe, Qf, OpW, aop, AS.ev, ↓reduceIte, aBin, t0, t3, hix, q', seval]
         repeat (first | (with_reducible refine Qb ?_) | ((with_reducible refine hK _ ?_); clear hK))
         (try (refine hK _ ?_; rw [Ym]))
         exact ⟨by rw [hv]; rfl, t0, t3, rfl⟩
       ·skip
        have hv : decide (¬ fol (byteAt b p)) = false := decide_eq_false fun h => h ((ZX _).2 (.inr (.inr (.inr ⟨by omega, by omega⟩))))
        (try simp only [Qqn]); refine QE 6 (fun K1 hK1 => ?_); simp -implicitDefEqProofs only [Qe, Qf, OpW, aop, AS.ev, ↓reduceIte, t0, t3, hix, seval]; (repeat ((((with_reducible refine Qp c1 ?_)); simp -implicitDefEqProofs only [Qe, Qf, OpW, QK, aop, AS.ev, ↓reduceIte, Nat.reduceLT]))); refine hK1 _ ?_; clear hK1
        (try simp only [QpV, Qp3]); refine QE 7 (fun K1 hK1 => ?_); simp -implicitDefEqProofs only [Qe, Qf, OpW, aop, AS.ev, ↓reduceIte, t0, t3, hix, seval]; (repeat ((((with_reducible refine Qp c2 ?_)); simp -implicitDefEqProofs only [Qe, Qf, OpW, QK, aop, AS.ev, ↓reduceIte, seval]))); refine hK1 _ ?_; clear hK1
        (try simp only [QpV, Qp3]); refine QE 5 (fun K1 hK1 => ?_); simp -implicitDefEqProofs only [Qe, Qf, OpW, aop, AS.ev, ↓reduceIte, aBin, t0, t3, hix, d1, seval]; refine hK1 _ ?_; clear hK1
        (try simp only [QpV, Qp3]); refine QE 6 (fun K1 hK1 => ?_); simp -implicitDefEqProofs only [Qe, Qf, OpW, aop, AS.ev, ↓reduceIte, aBin, t0, t3, hix, d2, seval]; refine hK1 _ ?_; clear hK1
        (try simp only [QpV, Qp3])
        simp -implicitDefEqProofs only [Qe, Qf, OpW, aop, undef, AS.ev, ↓reduceIte, seval]
        repeat (first | (with_reducible refine Qb ?_) | ((with_reducible refine hK _ ?_); clear hK))
        (try (refine hK _ ?_; rw [Ym]))
        exact ⟨by rw [hv]; rfl, t0, t3, rfl⟩
  ·have hpz : p = b.size := by omega
   rw [hpz] at he
   by_cases g1 : (b.size : Int) ≥ 1
   ·by_cases g2 : (b.size : Int) ≤ 40
    ·repeat (first | (((with_reducible refine Qa fun K E hK hE => ?_)); simp -implicitDefEqProofs only [Qe, Qf, OpW, aop, AS.ev, ↓reduceIte, aBin, aLen, goInt, t0, t3, hsl, hlt, g1, g2, seval]) | (with_reducible (first | refine Qd fun K hK => ?_ | refine Qj ?_ | refine QC ?_ | refine Qb ?_ | refine Qw ?_ | refine Qy ?_)) | ((with_reducible refine hK _ ?_); clear hK) | (clear hK; (with_reducible refine hK _ ?_); clear hK) | (refine Qg rfl ?_; simp only [↓reduceIte, QpQ]))
     simp only [QD, Ql, Qr, upd, ↓reduceIte, QpS, QpW]
     exact Qc List.take_length (.keep (.v _)) ⟨by rw [decide_eq_true (show Zd b from ⟨by omega, by omega, he⟩)], rfl⟩
    ·repeat (first | (((with_reducible refine Qa fun K E hK hE => ?_)); simp -implicitDefEqProofs only [Qe, Qf, OpW, aop, AS.ev, ↓reduceIte, aBin, aLen, goInt, t0, t3, hsl, hlt, g1, g2, seval]) | (with_reducible (first | refine Qd fun K hK => ?_ | refine Qj ?_ | refine QC ?_ | refine Qb ?_ | refine Qw ?_ | refine Qy ?_)) | ((with_reducible refine hK _ ?_); clear hK) | (clear hK; (with_reducible refine hK _ ?_); clear hK) | (refine Qg rfl ?_; simp only [↓reduceIte, QpQ]))
     simp only [QD, Ql, Qr, upd, ↓reduceIte, QpS, QpW]
     exact Qc List.take_length (.keep (.v _)) ⟨by rw [decide_eq_false (fun h : Zd b => by have := h.2.1; omega)], rfl⟩
   ·repeat (first | (((with_reducible refine Qa fun K E hK hE => ?_)); simp -implicitDefEqProofs only [Qe, Qf, OpW, aop, undef, AS.ev, ↓reduceIte, aBin, aLen, goInt, t0, t3, hsl, hlt, g1, seval]) | (with_reducible (first | refine Qd fun K hK => ?_ | refine Qj ?_ | refine QC ?_ | refine Qb ?_ | refine Qw ?_ | refine Qy ?_)) | ((with_reducible refine hK _ ?_); clear hK) | (clear hK; (with_reducible refine hK _ ?_); clear hK) | (refine Qg rfl ?_; simp only [↓reduceIte, QpQ]))
    simp only [QD, Ql, Qr, upd, ↓reduceIte, QpS, QpW]
    exact Qc List.take_length (.keep (.v _)) ⟨by rw [decide_eq_false (fun h : Zd b => by have := h.1; omega)], rfl⟩
 ·rw [hI]
  exact ⟨0, by omega, Nat.zero_le _, fun k hk => by omega, rfl, rfl, rfl⟩
theorem QbB (s : ByteArray) (hb : s.size ≤ maxLen) : Pure Tryz.prog 47 [.v (.string s)] (.b (decide (QbK 1 s) && !resB s)) := by
 intro h
 have c := Qgy s hb
 have cr := QcC s
 have cl := Qbe (byteAt s 0)
 by_cases hw : Zd s
 ·rw [decide_eq_true hw] at c
  have hix := QeL Tryz.prog 9 (by kernel_rfl) s (by have := hw.1; omega)
  by_cases hl : 97 ≤ byteAt s 0 ∧ byteAt s 0 ≤ 122
  ·rw [decide_eq_true hl] at cl
   have e : decide (QbK 1 s) = true := decide_eq_true ⟨hw.1, hw.2.1, (QjU _).2 hl, hw.2.2⟩
   refine Qh Tryz.func47 rfl Tryz.call47 Tryz.ntmps47 (congrArg Array.toList Tryz.results47) (by simp) ?_
   repeat (first | ((first | (with_reducible (first | refine Qa fun K E hK hE => ?_ | refine Qp c ?_ | refine Qp cl ?_ | refine Qp cr ?_))); simp -implicitDefEqProofs only [Qe, Qf, OpW, QK, aop, undef, AS.ev, Qv, ↓reduceIte, hix, seval]) | (with_reducible refine Qj ?_) | ((with_reducible refine hK _ ?_); clear hK))
   simp only [QD, Ql, Qr, upd, ↓reduceIte, QpS, QpW]; first | refine Qc (htake _ _) (.keep (.v _)) ⟨by rw [e, Bool.true_and], rfl⟩ | refine Qc List.take_length (.keep (.v _)) ⟨by rw [e, Bool.true_and], rfl⟩
  ·rw [decide_eq_false hl] at cl
   have e : decide (QbK 1 s) = false := decide_eq_false fun h => hl ((QjU _).1 h.2.2.1)
   refine Qh Tryz.func47 rfl Tryz.call47 Tryz.ntmps47 (congrArg Array.toList Tryz.results47) (by simp) ?_
   repeat (first | ((first | (with_reducible (first | refine Qa fun K E hK hE => ?_ | refine Qp c ?_ | refine Qp cl ?_))); simp -implicitDefEqProofs only [Qe, Qf, OpW, QK, aop, undef, AS.ev, Qv, ↓reduceIte, hix, seval]) | (with_reducible refine Qj ?_) | ((with_reducible refine hK _ ?_); clear hK))
   simp only [QD, Ql, Qr, upd, ↓reduceIte, QpS, QpW]; first | refine Qc (htake _ _) (.keep (.v _)) ⟨by rw [e]; rfl, rfl⟩ | refine Qc List.take_length (.keep (.v _)) ⟨by rw [e]; rfl, rfl⟩
 ·rw [decide_eq_false hw] at c
  have e : decide (QbK 1 s) = false := decide_eq_false fun h => hw ⟨h.1, h.2.1, h.2.2.2⟩
  refine Qh Tryz.func47 rfl Tryz.call47 Tryz.ntmps47 (congrArg Array.toList Tryz.results47) (by simp) ?_
  repeat (first | ((first | (with_reducible (first | refine Qa fun K E hK hE => ?_ | refine Qp c ?_))); simp -implicitDefEqProofs only [Qe, Qf, OpW, QK, aop, undef, AS.ev, Qv, ↓reduceIte, seval]) | (with_reducible refine Qj ?_) | ((with_reducible refine hK _ ?_); clear hK))
  simp only [QD, Ql, Qr, upd, ↓reduceIte, QpS, QpW]; first | refine Qc (htake _ _) (.keep (.v _)) ⟨by rw [e]; rfl, rfl⟩ | refine Qc List.take_length (.keep (.v _)) ⟨by rw [e]; rfl, rfl⟩
end Go.Proofs.YtniljpjjnmkoaaaGreatDoor.Ab
set_option maxRecDepth 4000
namespace Go.Proofs.YtniljpjjnmkoaaaGreatDoor.Ab
open Go.Proofs Go.RowKit
def opB (s : ByteArray) : Bool := (s.toList == ({ data := #[43] } : ByteArray).toList) || (s.toList == ({ data := #[45] } : ByteArray).toList) || (s.toList == ({ data := #[42] } : ByteArray).toList) || (s.toList == ({ data := #[47] } : ByteArray).toList) || (s.toList == ({ data := #[37] } : ByteArray).toList)
theorem QcB (s : ByteArray) : Pure Tryz.prog 126 [.v (.string s)] (.b (opB s)) := by
 intro h
 cases d0 : (s.toList == ({ data := #[43] } : ByteArray).toList) with
 | true =>
  refine Qh Tryz.func126 rfl Tryz.call126 Tryz.ntmps126 (congrArg Array.toList Tryz.results126) (by simp) ?_
  iterate 3 (try (first | (((with_reducible refine Qa fun K E hK hE => ?_)); simp -implicitDefEqProofs only [Q4, Q2, Qf, OpW, aop, AS.ev, Q6, Xq, Nat.reduceLT]) | (with_reducible refine Qd fun K hK => ?_) | ((with_reducible refine hK _ ?_); clear hK)))
  (with_reducible refine Qk fun K E hK hE => ?_)
  (try simp only [Qqn]); refine QE 4 (fun K1 hK1 => ?_); simp -implicitDefEqProofs only [Qe, Qf, OpW, aop, undef, AS.ev, Qv, ↓reduceIte, aBin, d0, seval]; refine hK1 _ ?_; clear hK1
  (try simp only [QpV, Qp3]); refine QE 4 (fun K1 hK1 => ?_); simp -implicitDefEqProofs only [Qe, Qf, OpW, aop, undef, AS.ev, ↓reduceIte, seval]; refine hK1 _ ?_; clear hK1
  (try simp only [QpV, Qp3]); refine QE 4 (fun K1 hK1 => ?_); simp -implicitDefEqProofs only [Qe, Qf, OpW, aop, undef, AS.ev, ↓reduceIte, seval]; refine hK1 _ ?_; clear hK1
  (try simp only [QpV, Qp3]); refine QE 4 (fun K1 hK1 => ?_); simp -implicitDefEqProofs only [Qe, Qf, OpW, aop, undef, AS.ev, ↓reduceIte, seval]; refine hK1 _ ?_; clear hK1
  (try simp only [QpV, Qp3])
  simp -implicitDefEqProofs only [Qe, Qf, OpW, aop, undef, AS.ev, ↓reduceIte, seval]
  repeat (first | (with_reducible (first | refine Qj ?_ | refine Qb ?_)) | ((with_reducible refine hK _ ?_); clear hK))
  simp only [QD, Ql, Qr, upd, ↓reduceIte, QpS, QpW]; first | refine Qc (htake _ _) (.keep (.v _)) ⟨by simp only [opB, d0, Bool.true_or], rfl⟩ | refine Qc List.take_length (.keep (.v _)) ⟨by simp only [opB, d0, Bool.true_or], rfl⟩
 | false =>
  cases d1 : (s.toList == ({ data := #[45] } : ByteArray).toList) with
  | true =>
   refine Qh Tryz.func126 rfl Tryz.call126 Tryz.ntmps126 (congrArg Array.toList Tryz.results126) (by simp) ?_
   iterate 3 (try (first | (((with_reducible refine Qa fun K E hK hE => ?_)); simp -implicitDefEqProofs only [Q4, Q2, Qf, OpW, aop, AS.ev, Q6, Xq, Nat.reduceLT]) | (with_reducible refine Qd fun K hK => ?_) | ((with_reducible refine hK _ ?_); clear hK)))
   (with_reducible refine Qk fun K E hK hE => ?_)
   (try simp only [Qqn]); refine QE 4 (fun K1 hK1 => ?_); simp -implicitDefEqProofs only [Qe, Qf, OpW, aop, undef, AS.ev, Qv, ↓reduceIte, aBin, d0, seval]; refine hK1 _ ?_; clear hK1
   (try simp only [QpV, Qp3]); refine QE 4 (fun K1 hK1 => ?_); simp -implicitDefEqProofs only [Qe, Qf, OpW, aop, undef, AS.ev, ↓reduceIte, aBin, d1, seval]; refine hK1 _ ?_; clear hK1
   (try simp only [QpV, Qp3]); refine QE 4 (fun K1 hK1 => ?_); simp -implicitDefEqProofs only [Qe, Qf, OpW, aop, undef, AS.ev, ↓reduceIte, seval]; refine hK1 _ ?_; clear hK1
   (try simp only [QpV, Qp3]); refine QE 4 (fun K1 hK1 => ?_); simp -implicitDefEqProofs only [Qe, Qf, OpW, aop, undef, AS.ev, ↓reduceIte, seval]; refine hK1 _ ?_; clear hK1
   (try simp only [QpV, Qp3])
   simp -implicitDefEqProofs only [Qe, Qf, OpW, aop, undef, AS.ev, ↓reduceIte, seval]
   repeat (first | (with_reducible (first | refine Qj ?_ | refine Qb ?_)) | ((with_reducible refine hK _ ?_); clear hK))
   simp only [QD, Ql, Qr, upd, ↓reduceIte, QpS, QpW]; first | refine Qc (htake _ _) (.keep (.v _)) ⟨by simp only [opB, d0, d1, Bool.or_true, Bool.true_or], rfl⟩ | refine Qc List.take_length (.keep (.v _)) ⟨by simp only [opB, d0, d1, Bool.or_true, Bool.true_or], rfl⟩
  | false =>
   cases d2 : (s.toList == ({ data := #[42] } : ByteArray).toList) with
   | true =>
    refine Qh Tryz.func126 rfl Tryz.call126 Tryz.ntmps126 (congrArg Array.toList Tryz.results126) (by simp) ?_
    iterate 3 (try (first | (((with_reducible refine Qa fun K E hK hE => ?_)); simp -implicitDefEqProofs only [Q4, Q2, Qf, OpW, aop, AS.ev, Q6, Xq, Nat.reduceLT]) | (with_reducible refine Qd fun K hK => ?_) | ((with_reducible refine hK _ ?_); clear hK)))
    (with_reducible refine Qk fun K E hK hE => ?_)
    (try simp only [Qqn]); refine QE 4 (fun K1 hK1 => ?_); simp -implicitDefEqProofs only [Qe, Qf, OpW, aop, undef, AS.ev, Qv, ↓reduceIte, aBin, d0, seval]; refine hK1 _ ?_; clear hK1
    (try simp only [QpV, Qp3]); refine QE 4 (fun K1 hK1 => ?_); simp -implicitDefEqProofs only [Qe, Qf, OpW, aop, undef, AS.ev, Qv, ↓reduceIte, aBin, d1, seval]; refine hK1 _ ?_; clear hK1
    (try simp only [QpV, Qp3]); refine QE 4 (fun K1 hK1 => ?_); simp -implicitDefEqProofs only [Qe, Qf, OpW, aop, undef, AS.ev, ↓reduceIte, aBin, d2, seval]; refine hK1 _ ?_; clear hK1
    (try simp only [QpV, Qp3]); refine QE 4 (fun K1 hK1 => ?_); simp -implicitDefEqProofs only [Qe, Qf, OpW, aop, undef, AS.ev, ↓reduceIte, seval]; refine hK1 _ ?_; clear hK1
    (try simp only [QpV, Qp3])
    simp -implicitDefEqProofs only [Qe, Qf, OpW, aop, undef, AS.ev, ↓reduceIte, seval]
    repeat (first | (with_reducible (first | refine Qj ?_ | refine Qb ?_)) | ((with_reducible refine hK _ ?_); clear hK))
    simp only [QD, Ql, Qr, upd, ↓reduceIte, QpS, QpW]; first | refine Qc (htake _ _) (.keep (.v _)) ⟨by simp only [opB, d0, d1, d2, Bool.or_false, Bool.or_true, Bool.true_or], rfl⟩ | refine Qc List.take_length (.keep (.v _)) ⟨by simp only [opB, d0, d1, d2, Bool.or_false, Bool.or_true, Bool.true_or], rfl⟩
   | false =>
    cases d3 : (s.toList == ({ data := #[47] } : ByteArray).toList) with
    | true =>
     refine Qh Tryz.func126 rfl Tryz.call126 Tryz.ntmps126 (congrArg Array.toList Tryz.results126) (by simp) ?_
     iterate 3 (try (first | (((with_reducible refine Qa fun K E hK hE => ?_)); simp -implicitDefEqProofs only [Q4, Q2, Qf, OpW, aop, AS.ev, Q6, Xq, Nat.reduceLT]) | (with_reducible refine Qd fun K hK => ?_) | ((with_reducible refine hK _ ?_); clear hK)))
     (with_reducible refine Qk fun K E hK hE => ?_)
     (try simp only [Qqn]); refine QE 4 (fun K1 hK1 => ?_); simp -implicitDefEqProofs only [Qe, Qf, OpW, aop, undef, AS.ev, Qv, ↓reduceIte, aBin, d0, seval]; refine hK1 _ ?_; clear hK1
     (try simp only [QpV, Qp3]); refine QE 4 (fun K1 hK1 => ?_); simp -implicitDefEqProofs only [Qe, Qf, OpW, aop, undef, AS.ev, Qv, ↓reduceIte, aBin, d1, seval]; refine hK1 _ ?_; clear hK1
     (try simp only [QpV, Qp3]); refine QE 4 (fun K1 hK1 => ?_); simp -implicitDefEqProofs only [Qe, Qf, OpW, aop, undef, AS.ev, Qv, ↓reduceIte, aBin, d2, seval]; refine hK1 _ ?_; clear hK1
     (try simp only [QpV, Qp3]); refine QE 4 (fun K1 hK1 => ?_); simp -implicitDefEqProofs only [Qe, Qf, OpW, aop, undef, AS.ev, ↓reduceIte, aBin, d3, seval]; refine hK1 _ ?_; clear hK1
     (try simp only [QpV, Qp3])
     simp -implicitDefEqProofs only [Qe, Qf, OpW, aop, undef, AS.ev, ↓reduceIte, seval]
     repeat (first | (with_reducible (first | refine Qj ?_ | refine Qb ?_)) | ((with_reducible refine hK _ ?_); clear hK))
     simp only [QD, Ql, Qr, upd, ↓reduceIte, QpS, QpW]; first | refine Qc (htake _ _) (.keep (.v _)) ⟨by simp only [opB, d0, d1, d2, d3, Bool.or_false, Bool.or_true, Bool.true_or], rfl⟩ | refine Qc List.take_length (.keep (.v _)) ⟨by simp only [opB, d0, d1, d2, d3, Bool.or_false, Bool.or_true, Bool.true_or], rfl⟩
    | false =>
     cases d4 : (s.toList == ({ data := #[37] } : ByteArray).toList) with
     | true =>
      refine Qh Tryz.func126 rfl Tryz.call126 Tryz.ntmps126 (congrArg Array.toList Tryz.results126) (by simp) ?_
      iterate 3 (try (first | (((with_reducible refine Qa fun K E hK hE => ?_)); simp -implicitDefEqProofs only [Q4, Q2, Qf, OpW, aop, AS.ev, Q6, Xq, Nat.reduceLT]) | (with_reducible refine Qd fun K hK => ?_) | ((with_reducible refine hK _ ?_); clear hK)))
      (with_reducible refine Qk fun K E hK hE => ?_)
      (try simp only [Qqn]); refine QE 4 (fun K1 hK1 => ?_); simp -implicitDefEqProofs only [Qe, Qf, OpW, aop, undef, AS.ev, Qv, ↓reduceIte, aBin, d0, seval]; refine hK1 _ ?_; clear hK1
      (try simp only [QpV, Qp3]); refine QE 4 (fun K1 hK1 => ?_); simp -implicitDefEqProofs only [Qe, Qf, OpW, aop, undef, AS.ev, Qv, ↓reduceIte, aBin, d1, seval]; refine hK1 _ ?_; clear hK1
      (try simp only [QpV, Qp3]); refine QE 4 (fun K1 hK1 => ?_); simp -implicitDefEqProofs only [Qe, Qf, OpW, aop, undef, AS.ev, Qv, ↓reduceIte, aBin, d2, seval]; refine hK1 _ ?_; clear hK1
      (try simp only [QpV, Qp3]); refine QE 4 (fun K1 hK1 => ?_); simp -implicitDefEqProofs only [Qe, Qf, OpW, aop, undef, AS.ev, Qv, ↓reduceIte, aBin, d3, seval]; refine hK1 _ ?_; clear hK1
      (try simp only [QpV, Qp3])
      simp -implicitDefEqProofs only [Qe, Qf, OpW, aop, AS.ev, ↓reduceIte, aBin, d4, seval]
      repeat (first | (with_reducible (first | refine Qj ?_ | refine Qb ?_)) | ((with_reducible refine hK _ ?_); clear hK))
      simp only [QD, Ql, Qr, upd, ↓reduceIte, QpS, QpW]; first | refine Qc (htake _ _) (.keep (.v _)) ⟨by simp only [opB, d0, d1, d2, d3, d4, Bool.or_false, Bool.or_true], rfl⟩ | refine Qc List.take_length (.keep (.v _)) ⟨by simp only [opB, d0, d1, d2, d3, d4, Bool.or_false, Bool.or_true], rfl⟩
     | false =>
      refine Qh Tryz.func126 rfl Tryz.call126 Tryz.ntmps126 (congrArg Array.toList Tryz.results126) (by simp) ?_
      iterate 3 (try (first | (((with_reducible refine Qa fun K E hK hE => ?_)); simp -implicitDefEqProofs only [Q4, Q2, Qf, OpW, aop, AS.ev, Q6, Xq, Nat.reduceLT]) | (with_reducible refine Qd fun K hK => ?_) | ((with_reducible refine hK _ ?_); clear hK)))
      (with_reducible refine Qk fun K E hK hE => ?_)
      (try simp only [Qqn]); refine QE 4 (fun K1 hK1 => ?_); simp -implicitDefEqProofs only [Qe, Qf, OpW, aop, undef, AS.ev, Qv, ↓reduceIte, aBin, d0, seval]; refine hK1 _ ?_; clear hK1
      (try simp only [QpV, Qp3]); refine QE 4 (fun K1 hK1 => ?_); simp -implicitDefEqProofs only [Qe, Qf, OpW, aop, undef, AS.ev, Qv, ↓reduceIte, aBin, d1, seval]; refine hK1 _ ?_; clear hK1
      (try simp only [QpV, Qp3]); refine QE 4 (fun K1 hK1 => ?_); simp -implicitDefEqProofs only [Qe, Qf, OpW, aop, undef, AS.ev, Qv, ↓reduceIte, aBin, d2, seval]; refine hK1 _ ?_; clear hK1
      (try simp only [QpV, Qp3]); refine QE 4 (fun K1 hK1 => ?_); simp -implicitDefEqProofs only [Qe, Qf, OpW, aop, undef, AS.ev, Qv, ↓reduceIte, aBin, d3, seval]; refine hK1 _ ?_; clear hK1
      (try simp only [QpV, Qp3])
      simp -implicitDefEqProofs only [Qe, Qf, OpW, aop, AS.ev, ↓reduceIte, aBin, d4, seval]
      repeat (first | (with_reducible (first | refine Qj ?_ | refine Qb ?_)) | ((with_reducible refine hK _ ?_); clear hK))
      simp only [QD, Ql, Qr, upd, ↓reduceIte, QpS, QpW]; first | refine Qc (htake _ _) (.keep (.v _)) ⟨by simp only [opB, d0, d1, d2, d3, d4, Bool.or_false], rfl⟩ | refine Qc List.take_length (.keep (.v _)) ⟨by simp only [opB, d0, d1, d2, d3, d4, Bool.or_false], rfl⟩
theorem QnK : ∀ n : Fin 256, decide (0 ≤ Lib.indexByte [43, 45, 42, 47, 37] (UInt8.ofNat n.val)) = (([UInt8.ofNat n.val] == [43]) || ([UInt8.ofNat n.val] == [45]) || ([UInt8.ofNat n.val] == [42]) || ([UInt8.ofNat n.val] == [47]) || ([UInt8.ofNat n.val] == [37])) := by decide +kernel
theorem Qod (c : UInt8) : decide (0 ≤ Lib.indexByte [43, 45, 42, 47, 37] c) = opB { data := #[c] } := by
 have := QnK ⟨c.toNat, c.toNat_lt⟩
 simp only [UInt8.ofNat_toNat] at this
 rw [this, opB]
 simp only [Lib.toList_data]
theorem Qe7 (c : UInt8) : Pure Tryz.prog 149 [.v (.string { data := #[43, 45, 42, 47, 37] }), .v (.string { data := #[c] })] (.b (opB { data := #[c] })) := by
 rw [← Qod]
 exact QiC (vs := [.string { data := #[43, 45, 42, 47, 37] }, .string { data := #[c] }]) Tryz.call149 fun w => (Tryz.strings_Contains_one _ c w).mono (by rintro e w' ⟨rfl, rfl⟩; exact ⟨_, rfl, Go.RowKit.Below.refl _ _, fun _ => .v _⟩)
theorem one_byte {s : ByteArray} (h : s.size = 1) : ∃ c, s = { data := #[c] } := by
 obtain ⟨⟨l⟩⟩ := s
 match l, h with
 | [c], _ => exact ⟨c, rfl⟩
theorem Qfd {s : ByteArray} (h : s.size ≠ 1) : opB s = false := by
 have : ∀ c : UInt8, (s.toList == [c]) = false := fun c => by
  rw [Lib.toList_data, beq_eq_false_iff_ne]
  intro e
  exact h (by rw [Lib.size_eq, e]; rfl)
 have t : ∀ c : UInt8, ({ data := #[c] } : ByteArray).toList = [c] := fun c => Lib.toList_data _
 simp only [opB, t, this, Bool.or_false]
theorem Qft (s : ByteArray) : Pure Tryz.prog 130 [.v (.string s)] (.b (opB s)) := by
 intro h
 have hsl := fun b => QbI Tryz.prog 9 3 (by kernel_rfl) b
 by_cases n1 : s.size = 1
 ·have m1 : ((s.size : Int) == 1) = true := by simp [n1]
  obtain ⟨c, rfl⟩ := one_byte n1
  have cc := Qe7 c
  refine Qh Tryz.func130 rfl Tryz.call130 Tryz.ntmps130 (congrArg Array.toList Tryz.results130) (by simp) ?_
  repeat (first | ((first | (with_reducible (first | refine Qa fun K E hK hE => ?_ | refine Qp cc ?_))); simp -implicitDefEqProofs only [Qe, Qf, OpW, QK, aop, undef, AS.ev, Qv, ↓reduceIte, aBin, aLen, goInt, hsl, m1, seval]) | (with_reducible refine Qj ?_) | ((with_reducible refine hK _ ?_); clear hK))
  simp only [QD, Ql, Qr, upd, ↓reduceIte, QpS, QpW]; first | refine Qc (htake _ _) (.keep (.v _)) ⟨rfl, rfl⟩ | refine Qc List.take_length (.keep (.v _)) ⟨rfl, rfl⟩
 ·have m1 : ((s.size : Int) == 1) = false := by simp; omega
  refine Qh Tryz.func130 rfl Tryz.call130 Tryz.ntmps130 (congrArg Array.toList Tryz.results130) (by simp) ?_
  repeat (first | (((with_reducible refine Qa fun K E hK hE => ?_)); simp -implicitDefEqProofs only [Qe, Qf, OpW, aop, undef, AS.ev, Qv, ↓reduceIte, aBin, aLen, goInt, hsl, m1, seval]) | (with_reducible refine Qj ?_) | ((with_reducible refine hK _ ?_); clear hK))
  simp only [QD, Ql, Qr, upd, ↓reduceIte, QpS, QpW]; first | refine Qc (htake _ _) (.keep (.v _)) ⟨by rw [Qfd n1], rfl⟩ | refine Qc List.take_length (.keep (.v _)) ⟨by rw [Qfd n1], rfl⟩
def vOf (t : ByteArray) : ByteArray := ({ data := #[86] } : ByteArray) ++ t
theorem QmU (n : Int) (h0 : 0 ≤ n) (h1 : n ≤ 1048576) (t : ByteArray) (ht : t.size ≤ 1000) (h : AH) (H : Xf Tryz.prog 99 [.i n] h fun o h' => o = .ret (.v (.string t)) ∧ h' = h) : Xf Tryz.prog 57 [.i n] h fun o h' => o = .ret (.v (.string (vOf t))) ∧ h' = h := by
 have m0 : ¬ n < 0 := by omega
 have m1 : ¬ n > 1048576 := by omega
 have hsa := fun xo yo => ZY Tryz.prog 9 xo yo ({ data := #[86] } : ByteArray) t (by show 1 + t.size ≤ _; omega)
 refine Qh Tryz.func57 rfl Tryz.call57 Tryz.ntmps57 (congrArg Array.toList Tryz.results57) (by simp) ?_
 repeat (first | ((first | (with_reducible (first | refine Qa fun K E hK hE => ?_ | refine FunW.ret (FunW.call H) ?_))); simp -implicitDefEqProofs only [Qe, Qf, OpW, QK, aop, undef, AS.ev, Qv, ↓reduceIte, aBin, m0, m1, hsa, seval]) | (with_reducible (first | refine Qd fun K hK => ?_ | refine Qj ?_ | refine Qn ?_ | refine Qb ?_)) | ((with_reducible refine hK _ ?_); clear hK) | (refine Qg rfl ?_; simp only [↓reduceIte, QpQ]))
 simp only [QD, Ql, Qr, upd, ↓reduceIte, QpS, QpW]; first | refine Qc (htake _ _) (.keep (.v _)) ⟨rfl, rfl⟩ | refine Qc List.take_length (.keep (.v _)) ⟨rfl, rfl⟩
end Go.Proofs.YtniljpjjnmkoaaaGreatDoor.Ab
namespace Go.Proofs.YtniljpjjnmkoaaaGreatDoor.Ab
def hs (h : AH) (i : Nat) (x : AB) : AH := h.set i x
section
variable {h : AH} {i : Nat} (hi : i < h.length)
theorem Zw (h : AH) (i : Nat) (x : AB) : (hs h i x).length = h.length := by simp [hs]
include hi
theorem Qc6 (x : AB) : (hs h i x)[i]? = some x := by simp [hs, hi]
theorem QhP (x : AB) (L : AH) : (hs h i x ++ L)[i]? = some x := by rw [List.getElem?_append_left (by rw [Zw]; exact hi)]; exact Qc6 hi x
theorem QfY (x y : AB) : (hs h i x).set i y = hs h i y := by have _u := hi; simp [hs]
theorem QhQ (x y : AB) (L : AH) : (hs h i x ++ L).set i y = hs h i y ++ L := by rw [List.set_append_left _ _ (by rw [Zw]; exact hi), QfY hi]
theorem QmX (x : AB) (L : AH) : hs (h ++ L) i x = hs h i x ++ L := by simp only [hs]; rw [List.set_append_left _ _ hi]
omit hi
theorem QhU (x : AB) (L : AH) : (hs h i x ++ L)[h.length]? = L[0]? := by rw [← Zw h i x]; exact Qfz _ _
theorem QnL (x : AB) (L : AH) (k : Nat) : (hs h i x ++ L)[h.length + k]? = L[k]? := by rw [← Zw h i x]; exact hget _ _ _
theorem Qmo (x y : AB) (L : AH) : (hs h i x ++ L).set h.length y = hs h i x ++ L.set 0 y := by rw [← Zw h i x]; exact Qjx _ _ _
theorem Qnr (x y : AB) (L : AH) (k : Nat) : (hs h i x ++ L).set (h.length + k) y = hs h i x ++ L.set k y := by rw [← Zw h i x]; exact hset _ _ _ _
theorem Qfl {x : AB} (hx : h[i]? = some x) : hs h i x = h := by
 apply List.ext_getElem?
 intro j
 simp only [hs, List.getElem?_set]
 split
 ·rename_i hj; subst hj; rw [hx]; simp [QF hx]
 ·rfl
end
def Chg (P : Program) (f : FuncId) (args : List AV) (i : Nat) (x : AB) (r : AV) (y : AB) : Prop :=
 ∀ h : AH, i < h.length → Xf P f args (hs h i x) fun o h' => o = .ret r ∧ h' = hs h i y
theorem Chg.app {P : Program} {f : FuncId} {args : List AV} {i : Nat} {x y : AB} {r : AV} (H : Chg P f args i x r y) {h : AH} (hi : i < h.length) (L : AH) :
  Xf P f args (hs h i x ++ L) fun o h' => o = .ret r ∧ h' = hs h i y ++ L := by
 have := H (h ++ L) (by rw [List.length_append]; omega)
 rwa [QmX hi, QmX hi] at this
theorem Xk {h : AH} {i : Nat} {x y : AB} {L : AH} {r r' : AV} {Q : AV → AH → Prop} (hy : y.Below h.length) (hf : Frz (hs h i y ++ L) h.length r r') (hq : Q r' (hs h i y)) : Leaves (hs h i x) (hs h i y ++ L) r Q := by
 have ht : (hs h i y ++ L).take h.length = hs h i y := by rw [← Zw h i y]; exact htake _ _
 refine .inl ⟨h.length, r', by rw [Zw]; exact Nat.le_refl _, by rw [List.length_append, Zw]; omega, .inr fun k b hb => ?_, hf, by rw [ht]; exact hq⟩
 rw [ht] at hb
 simp only [hs, List.getElem?_set] at hb ⊢
 by_cases hk : i = k
 ·subst hk
  simp only [if_true] at hb ⊢
  split at hb
  ·cases hb; exact .inr hy
  ·cases hb
 ·rw [if_neg hk] at hb ⊢
  exact .inl hb
def hs2 (h : AH) (i : Nat) (x : AB) (j : Nat) (y : AB) : AH := (h.set i x).set j y
section
variable {h : AH} {i j : Nat} (hi : i < h.length) (hj : j < h.length) (hij : i ≠ j)
theorem Yl (h : AH) (i : Nat) (x : AB) (j : Nat) (y : AB) : (hs2 h i x j y).length = h.length := by simp [hs2]
theorem QmH (x y : AB) (L : AH) : (hs2 h i x j y ++ L)[h.length]? = L[0]? := by rw [← Yl h i x j y]; exact Qfz _ _
theorem Qno (x y : AB) (L : AH) (k : Nat) : (hs2 h i x j y ++ L)[h.length + k]? = L[k]? := by rw [← Yl h i x j y]; exact hget _ _ _
theorem Qkn (x y z : AB) (L : AH) : (hs2 h i x j y ++ L).set h.length z = hs2 h i x j y ++ L.set 0 z := by rw [← Yl h i x j y]; exact Qjx _ _ _
theorem QlY (x y z : AB) (L : AH) (k : Nat) : (hs2 h i x j y ++ L).set (h.length + k) z = hs2 h i x j y ++ L.set k z := by rw [← Yl h i x j y]; exact hset _ _ _ _
include hj in
theorem Qar (x y : AB) : (hs2 h i x j y)[j]? = some y := by simp [hs2, hj]
include hi hij in
theorem Yu (x y : AB) : (hs2 h i x j y)[i]? = some x := by
 simp only [hs2]
 rw [List.getElem?_set_ne (fun e => hij e.symm)]
 simp [hi]
include hi hij in
theorem QkG (x y : AB) (L : AH) : (hs2 h i x j y ++ L)[i]? = some x := by rw [List.getElem?_append_left (by rw [Yl]; exact hi)]; exact Yu hi hij x y
theorem QcE (x y z : AB) : (hs2 h i x j y).set j z = hs2 h i x j z := by simp [hs2]
include hij in
theorem QcH (x y z : AB) : (hs2 h i x j y).set i z = hs2 h i z j y := by
 simp only [hs2]
 rw [List.set_comm _ _ (fun e => hij e.symm), List.set_set]
include hi hj in
theorem Qht (x y : AB) (L : AH) : hs2 (h ++ L) i x j y = hs2 h i x j y ++ L := by
 simp only [hs2]
 rw [List.set_append_left _ _ hi, List.set_append_left _ _ (by simpa using hj)]
theorem Y1 (x y : AB) {k : Nat} (h1 : i ≠ k) (h2 : j ≠ k) : (hs2 h i x j y)[k]? = h[k]? := by
 simp only [hs2]
 rw [List.getElem?_set_ne h2, List.getElem?_set_ne h1]
end
theorem Qja {h : AH} {i j : Nat} {x y x' y' : AB} {L : AH} {r r' : AV} {Q : AV → AH → Prop} (hij : i ≠ j) (hx : x'.Below h.length) (hy : y'.Below h.length) (hf : Frz (hs2 h i x' j y' ++ L) h.length r r') (hq : Q r' (hs2 h i x' j y')) :
  Leaves (hs2 h i x j y) (hs2 h i x' j y' ++ L) r Q := by
 have ht : (hs2 h i x' j y' ++ L).take h.length = hs2 h i x' j y' := by rw [← Yl h i x' j y']; exact htake _ _
 refine .inl ⟨h.length, r', by rw [Yl]; exact Nat.le_refl _, by rw [List.length_append, Yl]; omega, .inr fun k b hb => ?_, hf, by rw [ht]; exact hq⟩
 rw [ht] at hb
 have hlt := QF hb
 rw [Yl] at hlt
 by_cases hk : j = k
 ·subst hk
  rw [Qar hlt] at hb
  cases hb; exact .inr hy
 ·by_cases hk' : i = k
  ·subst hk'
   rw [Yu hlt hij] at hb
   cases hb; exact .inr hx
  ·rw [Y1 _ _ hk' hk] at hb ⊢
   exact .inl hb
def Chg2 (P : Program) (f : FuncId) (args : List AV) (i : Nat) (x : AB) (j : Nat) (y : AB) (r : AV) (x' y' : AB) : Prop :=
 ∀ h : AH, i < h.length → j < h.length → Xf P f args (hs2 h i x j y) fun o h' => o = .ret r ∧ h' = hs2 h i x' j y'
theorem Chg2.app {P : Program} {f : FuncId} {args : List AV} {i j : Nat} {x y x' y' : AB} {r : AV} (H : Chg2 P f args i x j y r x' y') {h : AH} (hi : i < h.length) (hj : j < h.length) (L : AH) :
  Xf P f args (hs2 h i x j y ++ L) fun o h' => o = .ret r ∧ h' = hs2 h i x' j y' ++ L := by
 have := H (h ++ L) (by rw [List.length_append]; omega) (by rw [List.length_append]; omega)
 rwa [Qht hi hj, Qht hi hj] at this
end Go.Proofs.YtniljpjjnmkoaaaGreatDoor.Ab

