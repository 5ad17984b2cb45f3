/-
  The abstract program logic: frames, calls, code: what they mean over the model, and the rules for the forms of code.
-/
import Derived.Test.YtplnbmldkgcedaaAbA
set_option linter.unusedVariables false
set_option maxHeartbeats 4000000
namespace Go.Proofs.Ytplnbmldkgcedaa.Ab

structure AS where
  tm : Nat → AV
  h : AH

def upd (f : Nat → AV) (d : Nat) (x : AV) : Nat → AV := fun t => if t = d then x else f t
@[simp] theorem upd_same (f : Nat → AV) (d : Nat) (x : AV) : upd f d x d = x := by simp [upd]
theorem upd_ne (f : Nat → AV) {d t : Nat} (x : AV) (h : t ≠ d) : upd f d x t = f t := by simp [upd, h]

def AV.ofV : Value → AV
  | .agg cs => .agg (cs.toList.map .v)
  | .func f a b => .fn f (a.toList.map .v) (b.toList.map .v)
  | x => .v x

def AS.ev (s : AS) : Operand → AV
  | .tmp t => s.tm t
  | .const v => AV.ofV v
  | .global g => .v (.pointer (some ⟨g, 0, none⟩))
  | .func f => .fn (.func f) [] []

def AS.put (N : Nat) (s : AS) (d : Option Tmp) (x : AV) : AS :=
  match d with
  | some d => if d < N then { s with tm := upd s.tm d x } else s
  | none => s

theorem rel_ofV (c : Cx) (x : Value) : Rel c (AV.ofV x) x := by
  cases x with
  | agg cs =>
    refine .agg _ cs (by simp) ?_
    intro j a u ha hu
    simp only [List.getElem?_map, Array.getElem?_toList, hu] at ha
    cases ha
    exact .v u
  | func f a b =>
    refine .fn f _ _ a b (by simp) (by simp) ?_ ?_
    · intro j x u hx hu
      simp only [List.getElem?_map, Array.getElem?_toList, hu] at hx
      cases hx
      exact .v u
    · intro j x u hx hu
      simp only [List.getElem?_map, Array.getElem?_toList, hu] at hx
      cases hx
      exact .v u
  | _ => exact .v _

/-- marks of the loops over functions among the deferred calls -/
def mkMark (D : Nat) : Deferred := { target := .collected D, args := #[] }
def DefOk (c : Cx) (base : Nat) (ds : List Deferred) : Prop :=
  ∃ Ds : List Nat, ds = Ds.map mkMark ∧ Ds.Nodup ∧ ∀ D ∈ Ds, base ≤ D ∧ c.w.heap[D]? = some (.deferred (some [])) ∧ ¬ c.owns D

theorem DefOk.ev {c c' : Cx} (h : Ev c c') {base : Nat} {ds : List Deferred} (hd : DefOk c base ds) : DefOk c' base ds := by
  obtain ⟨Ds, e, hn, hall⟩ := hd
  refine ⟨Ds, e, hn, fun D hm => ?_⟩
  obtain ⟨hb, hD, ho⟩ := hall D hm
  have hlt := (Array.getElem?_eq_some_iff.1 hD).1
  exact ⟨hb, (h.frame D hlt ho).trans hD, fun ho' => ho (h.owns hlt ho')⟩

/-- within a round: its record is there -/
def RoundOk (F : Fence) (c : Cx) : Prop := ∀ l, F.round = some l → ∃ id i, c.h[id]? = some (.loop i) ∧ c.ρ id = some l
theorem RoundOk.ev {F : Fence} {c c' : Cx} (h : Ev c c') (hr : RoundOk F c) : RoundOk F c' := by
  intro l hl
  obtain ⟨id, i, h1, h2⟩ := hr l hl
  obtain ⟨b', hb, hk⟩ := h.kin id _ h1
  simp only [Kin] at hk
  obtain ⟨i', rfl, hρ⟩ := hk
  exact ⟨id, i', hb, hρ.trans h2⟩

structure SR (N : Nat) (base : Nat × Fence) (c : Cx) (s : AS) (a : Act) : Prop where
  h : c.h = s.h
  size : a.tmps.size = N
  above : base.1 ≤ c.w.heap.size
  defers : DefOk c base.1 a.defers
  round : RoundOk base.2 c
  tm : ∀ t, Rel c (s.tm t) (a.tmps.getD t undef)

theorem SR.eval {N : Nat} {base : Nat × Fence} {c : Cx} {s : AS} {a : Act} (h : SR N base c s a) (x : Operand) : Rel c (s.ev x) (a.eval x) := by
  cases x with
  | tmp t => exact h.tm t
  | const v => exact rel_ofV c v
  | global g => exact .v _
  | func f => exact .fn _ [] [] #[] #[] rfl rfl (fun j a u h => by simp at h) (fun j a u h => by simp at h)

theorem SR.put {N : Nat} {base : Nat × Fence} {c c' : Cx} {s : AS} {a : Act} (h : SR N base c s a) (hs : St c) (he : Ev c c') (d : Option Tmp) {r : AV} {x : Value} (hr : Rel c' r x) :
    SR N base c' (AS.put N { s with h := c'.h } d r) (a.put d x) := by
  cases d with
  | none => exact ⟨rfl, h.size, Nat.le_trans h.above he.size, h.defers.ev he, RoundOk.ev he h.round, fun t => (h.tm t).ev hs he⟩
  | some d =>
    by_cases hd : d < N
    · simp only [AS.put, if_pos hd]
      refine ⟨rfl, by simp [Act.put, h.size], Nat.le_trans h.above he.size, h.defers.ev he, RoundOk.ev he h.round, fun t => ?_⟩
      simp only [upd, Act.put]
      by_cases ht : t = d
      · subst ht
        rw [if_pos rfl, Array.getD_eq_getD_getElem?, Array.getElem?_setIfInBounds_self_of_lt (by rw [h.size]; exact hd)]
        exact hr
      · rw [if_neg ht, Array.getD_eq_getD_getElem?, Array.getElem?_setIfInBounds_ne (fun e => ht e.symm), ← Array.getD_eq_getD_getElem?]
        exact (h.tm t).ev hs he
    · simp only [AS.put, if_neg hd]
      refine ⟨rfl, by simp [Act.put, h.size], Nat.le_trans h.above he.size, h.defers.ev he, RoundOk.ev he h.round, fun t => ?_⟩
      simp only [Act.put]
      have e : (a.tmps.setIfInBounds d x) = a.tmps := by
        simp only [Array.setIfInBounds]
        rw [dif_neg (by rw [h.size]; exact hd)]
      rw [e]
      exact (h.tm t).ev hs he

inductive AExit where
  | normal
  | exit (id : Nat)
  | ret
  | panic (x : AV)

def ExC (c : Cx) : AExit → Exit → Prop
  | .normal, e => e = .normal
  | .exit id, e => e = .exit id
  | .ret, e => e = .ret
  | .panic a, e => ∃ x, e = .panic [{ v := x, recovered := false }] ∧ Rel c a x

inductive AOut where
  | ret (x : AV)
  | panic (x : AV)

def EndC (c : Cx) : AOut → Ending → Prop
  | .ret a, e => ∃ x, e = .returned x ∧ Rel c a x
  | .panic a, e => ∃ x, e = .panicked [{ v := x, recovered := false }] ∧ Rel c a x

structure WF (F : Fence) : Prop where
  fn : ∀ f, F.fn f
  depth : F.depth = none

theorem WF.wide : WF Fence.wide := ⟨fun _ => trivial, rfl⟩
theorem WF.inRound {F : Fence} (h : WF F) (l : Nat) : WF (F.inRound l) := ⟨h.fn, h.depth⟩
theorem WF.plain {F : Fence} (h : WF F) : WF F.plain := ⟨h.fn, h.depth⟩

def RelL (c : Cx) (args : List AV) (vals : Array Value) : Prop :=
  vals.size = args.length ∧ ∀ (j : Nat) a u, args[j]? = some a → vals[j]? = some u → Rel c a u

theorem RelL.ev {c c' : Cx} (hs : St c) (h : Ev c c') {args : List AV} {vals : Array Value} (hr : RelL c args vals) : RelL c' args vals :=
  ⟨hr.1, fun j a u h1 h2 => (hr.2 j a u h1 h2).ev hs h⟩

/-- a call of a function by its number -/
def CallW (P : Program) (f : FuncId) (args : List AV) (h : AH) (Q : AOut → AH → Prop) : Prop :=
  (∀ vals w, (callFunc f vals).run P w = .ok (.enter f vals) w) ∧
  ∀ (F : Fence) (n : Nat) (c : Cx) (vals : Array Value), WF F → St c → c.h = h → RelL c args vals →
    CallsIn F n P f vals c.w fun e w' => ∃ o c', Q o c'.h ∧ Ev c c' ∧ St c' ∧ c'.w = w' ∧ EndC c' o e

/-- a call of a function value -/
def FunW (P : Program) (fv : AV) (args : List AV) (h : AH) (Q : AOut → AH → Prop) : Prop :=
  ∀ (F : Fence) (n : Nat) (c : Cx) (v : Value) (vals : Array Value), WF F → St c → c.h = h → Rel c fv v → RelL c args vals →
    ∀ (o : Oper) (a : Act) (next : Act → World → Prop) (Qx : Exit → Act → World → Prop),
      (∀ r c' x, Q (.ret r) c'.h → Ev c c' → St c' → Rel c' r x → next (a.put o.dst x) c'.w) →
      (∀ r c' x, Q (.panic r) c'.h → Ev c c' → St c' → Rel c' r x → Qx (.panic [{ v := x, recovered := false }]) a c'.w) →
      o.uponIn F n P a next Qx ((do let d ← Deferred.ofValue v vals; invoke d.target d.args).run P c.w)

theorem FunW.mono {P : Program} {fv : AV} {args : List AV} {h : AH} {Q Q' : AOut → AH → Prop} (H : FunW P fv args h Q) (hq : ∀ o h', Q o h' → Q' o h') : FunW P fv args h Q' :=
  fun F n c v vals hF hs hh hv hvs o a next Qx h1 h2 => H F n c v vals hF hs hh hv hvs o a next Qx (fun r c' x hQ => h1 r c' x (hq _ _ hQ)) (fun r c' x hQ => h2 r c' x (hq _ _ hQ))

theorem CallW.mono {P : Program} {f : FuncId} {args : List AV} {h : AH} {Q Q' : AOut → AH → Prop} (H : CallW P f args h Q) (hq : ∀ o h', Q o h' → Q' o h') : CallW P f args h Q' :=
  ⟨H.1, fun F n c vals hF hs hh hvs => (H.2 F n c vals hF hs hh hvs).mono fun _ _ ⟨o, c', hQ, rest⟩ => ⟨o, c', hq _ _ hQ, rest⟩⟩

theorem RelL.append {c : Cx} {l m : List AV} {u v : Array Value} (h : RelL c l u) (k : RelL c m v) : RelL c (l ++ m) (u ++ v) := by
  refine ⟨by simp [h.1, k.1], fun j a x ha hx => ?_⟩
  rw [List.getElem?_append] at ha
  rw [Array.getElem?_append, h.1] at hx
  split at ha
  · rename_i hj; rw [if_pos hj] at hx; exact h.2 j a x ha hx
  · rename_i hj; rw [if_neg hj] at hx; exact k.2 _ a x ha hx

theorem FunW.fn {P : Program} {f : FuncId} {first cap args : List AV} {h : AH} {Q : AOut → AH → Prop} (H : CallW P f (first ++ args ++ cap) h Q) : FunW P (.fn (.func f) first cap) args h Q := by
  intro F n c v vals hF hs hh hv hvs o a next Qx h1 h2
  cases hv with
  | fn _ _ _ vs ws e1 e2 hv1 hv2 =>
    have hall : RelL c (first ++ args ++ cap) (vs ++ vals ++ ws) := RelL.append (RelL.append ⟨e1, hv1⟩ hvs) ⟨e2, hv2⟩
    simp only [Deferred.ofValue, Sem.run_bind, Sem.run_pure, Result.andThen_ok, invoke, H.1]
    refine ⟨fun hd => by simp [hF.depth] at hd, (H.2 F (n - 1) c _ hF hs hh hall).mono ?_⟩
    rintro e w' ⟨out, c', hQ, hev, hst, rfl, hend⟩
    cases out with
    | ret r => obtain ⟨x, rfl, hx⟩ := hend; exact h1 r c' x hQ hev hst hx
    | panic r => obtain ⟨x, rfl, hx⟩ := hend; exact h2 r c' x hQ hev hst hx

/-- a piece of code -/
def CodeW (P : Program) (N : Nat) (code : Code) (Q : AExit → AS → Prop) (s : AS) : Prop :=
  ∀ (F : Fence) (n base : Nat) (c : Cx) (a : Act), WF F → St c → SR N (base, F) c s a →
    ∀ R : Exit → Act → World → Prop, (∀ e s' c' a' e', Q e s' → Ev c c' → St c' → SR N (base, F) c' s' a' → ExC c' e e' → R e' a' c'.w) →
      code.wpIn F n P R a c.w

/-- the next round is nearer the end -/
def Onward (I : Nat → AS → Prop) (m : Nat) (s : AS) : Prop := ∃ m', m' < m ∧ I m' s
theorem Onward.mk {I : Nat → AS → Prop} {m m' : Nat} {s : AS} (h : m' < m) (h' : I m' s) : Onward I m s := ⟨m', h, h'⟩

section rules
variable {P : Program} {N : Nat} {Q : AExit → AS → Prop} {s : AS}

theorem CodeW.mono {code : Code} {Q' : AExit → AS → Prop} (H : CodeW P N code Q s) (hq : ∀ e s, Q e s → Q' e s) : CodeW P N code Q' s :=
  fun F n base c a hF hs hr R hR => H F n base c a hF hs hr R fun e s' c' a' e' hQ => hR e s' c' a' e' (hq _ _ hQ)

theorem codeW_skip (h : Q .normal s) : CodeW P N .skip Q s :=
  fun F n base c a hF hs hr R hR => wpIn_skip (hR _ _ c a _ h (Ev.refl c) hs hr rfl)
theorem codeW_label {l : Nat} (h : Q .normal s) : CodeW P N (.label l) Q s :=
  fun F n base c a hF hs hr R hR => wpIn_label (hR _ _ c a _ h (Ev.refl c) hs hr rfl)
theorem codeW_exit {id : Nat} (h : Q (.exit id) s) : CodeW P N (.exit id) Q s :=
  fun F n base c a hF hs hr R hR => wpIn_exit (hR _ _ c a _ h (Ev.refl c) hs hr rfl)
theorem codeW_ret (h : Q .ret s) : CodeW P N .ret Q s :=
  fun F n base c a hF hs hr R hR => wpIn_ret (hR _ _ c a _ h (Ev.refl c) hs hr rfl)

/-- a normal end goes on with K, all else is Q's -/
def AExit.then (K : AS → Prop) (Q : AExit → AS → Prop) : AExit → AS → Prop
  | .normal, s => K s
  | e, s => Q e s

theorem codeW_seq {x y : Code} (h : CodeW P N x (AExit.then (CodeW P N y Q) Q) s) : CodeW P N (.seq x y) Q s := by
  intro F n base c a hF hs hr R hR
  refine wpIn_seq (h F n base c a hF hs hr _ ?_)
  intro e s' c' a' e' hQ hev hst hsr hex
  cases e with
  | normal =>
    cases hex
    exact hQ F n base c' a' hF hst hsr R fun e s2 c2 a2 e2 hQ2 hev2 hst2 hsr2 hex2 => hR e s2 c2 a2 e2 hQ2 (Ev.trans hs hev hev2) hst2 hsr2 hex2
  | exit id => cases hex; exact hR _ s' c' a' _ hQ hev hst hsr rfl
  | ret => cases hex; exact hR _ s' c' a' _ hQ hev hst hsr rfl
  | panic av => obtain ⟨x, rfl, hx⟩ := hex; exact hR _ s' c' a' _ hQ hev hst hsr ⟨x, rfl, hx⟩

theorem codeW_seq_k {x y : Code} (h : ∀ K : AS → Prop, (∀ s, CodeW P N y Q s → K s) → CodeW P N x (AExit.then K Q) s) : CodeW P N (.seq x y) Q s :=
  codeW_seq (h _ fun _ h => h)

theorem codeW_cond {o : Operand} {x y : Code} {t : Bool} (ho : s.ev o = .v (.bool t)) (h : CodeW P N (if t then x else y) Q s) : CodeW P N (.cond o x y) Q s := by
  intro F n base c a hF hs hr R hR
  have he := hr.eval o
  rw [ho] at he
  have hx : a.eval o = .bool t := by
    generalize a.eval o = u at he
    cases he; rfl
  exact wpIn_cond hx (h F n base c a hF hs hr R hR)

def AExit.inBlock (id : Nat) (Q : AExit → AS → Prop) : AExit → AS → Prop
  | .exit i, s => if i = id then Q .normal s else Q (.exit i) s
  | e, s => Q e s

theorem codeW_block {id : Nat} {x : Code} (h : CodeW P N x (AExit.inBlock id Q) s) : CodeW P N (.block id x) Q s := by
  intro F n base c a hF hs hr R hR
  refine wpIn_block (h F n base c a hF hs hr _ ?_)
  intro e s' c' a' e' hQ hev hst hsr hex
  cases e with
  | normal => cases hex; exact hR _ s' c' a' _ hQ hev hst hsr rfl
  | exit i =>
    cases hex
    simp only [Exit.inBlock]
    simp only [AExit.inBlock] at hQ
    split
    · rename_i hi; rw [if_pos hi] at hQ; exact hR _ s' c' a' _ hQ hev hst hsr rfl
    · rename_i hi; rw [if_neg hi] at hQ; exact hR _ s' c' a' _ hQ hev hst hsr rfl
  | ret => cases hex; exact hR _ s' c' a' _ hQ hev hst hsr rfl
  | panic av => obtain ⟨x, rfl, hx⟩ := hex; exact hR _ s' c' a' _ hQ hev hst hsr ⟨x, rfl, hx⟩

/-- a loop by an invariant with a measure -/
theorem codeW_loop {x : Code} (I : Nat → AS → Prop) (h : ∀ m s, I m s → CodeW P N x (AExit.then (Onward I m) Q) s) {m : Nat} (h0 : I m s) : CodeW P N (.loop x) Q s := by
  intro F n base c a hF hs hr R hR
  have key : ∀ (k m : Nat) (s : AS) (c : Cx) (a : Act), m < k → I m s → St c → SR N (base, F) c s a →
      (∀ e s' c' a' e', Q e s' → Ev c c' → St c' → SR N (base, F) c' s' a' → ExC c' e e' → R e' a' c'.w) → Code.roundsIn F n P x R k a c.w := by
    intro k
    induction k with
    | zero => intro m _ _ _ hm; omega
    | succ k ih =>
      intro m s c a hm hI hs hr hR
      rw [roundsIn_succ]
      refine h m s hI F n base c a hF hs hr _ ?_
      intro e s' c' a' e' hQ hev hst hsr hex
      cases e with
      | normal =>
        cases hex
        obtain ⟨m', hlt, hI'⟩ := hQ
        exact ih m' s' c' a' (by omega) hI' hst hsr fun e s2 c2 a2 e2 hQ2 hev2 hst2 hsr2 hex2 => hR e s2 c2 a2 e2 hQ2 (Ev.trans hs hev hev2) hst2 hsr2 hex2
      | exit id => cases hex; exact hR _ s' c' a' _ hQ hev hst hsr rfl
      | ret => cases hex; exact hR _ s' c' a' _ hQ hev hst hsr rfl
      | panic av => obtain ⟨x, rfl, hx⟩ := hex; exact hR _ s' c' a' _ hQ hev hst hsr ⟨x, rfl, hx⟩
  exact wpIn_loop_rounds (m + 1) (key (m + 1) m s c a (by omega) h0 hs hr hR)
end rules

end Go.Proofs.Ytplnbmldkgcedaa.Ab
