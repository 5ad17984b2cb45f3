/-
  The abstract program logic: a region whose operations come in any order that their edges allow.
-/
import Derived.Test.YtplnbmldkgcedaaAbM
set_option linter.unusedVariables false
set_option maxHeartbeats 4000000
namespace Go.Proofs.Ytplnbmldkgcedaa.Ab

/-! ### what comes before what -/

inductive Anc (ops : Array Oper) : Nat → Nat → Prop
  | edge (j : Nat) (o : Oper) (e : Edge) (ho : ops[j]? = some o) (he : e ∈ o.after) (hb : Region.binds .any e = true) : Anc ops e.on j
  | trans {i j k : Nat} : Anc ops i j → Anc ops j k → Anc ops i k

def maskOf (acc : List Nat) (o : Oper) : Nat := o.after.toList.foldl (fun s e => if Region.binds .any e then s ||| 2 ^ e.on ||| acc.getD e.on 0 else s) 0
def masks : List Oper → List Nat → List Nat
  | [], acc => acc
  | o :: l, acc => masks l (acc ++ [maskOf acc o])

theorem maskOf_spec {ops : Array Oper} {acc : List Nat} {o : Oper} {j : Nat} (ho : ops[j]? = some o) (hacc : ∀ (k i : Nat), (acc.getD k 0).testBit i = true → Anc ops i k) {i : Nat} (h : (maskOf acc o).testBit i = true) : Anc ops i j := by
  have go : ∀ (l : List Edge) (s : Nat), (∀ e ∈ l, e ∈ o.after) → (∀ i, s.testBit i = true → Anc ops i j) → ∀ i, (l.foldl (fun s e => if Region.binds .any e then s ||| 2 ^ e.on ||| acc.getD e.on 0 else s) s).testBit i = true → Anc ops i j := by
    intro l
    induction l with
    | nil => intro s _ hs i hi; exact hs i hi
    | cons e l ih =>
      intro s hl hs i hi
      refine ih _ (fun e he => hl e (by simp [he])) ?_ i hi
      intro i hi
      dsimp only at hi
      split at hi
      · rename_i hb
        have hedge := Anc.edge j o e ho (hl e (by simp)) hb
        simp only [Nat.testBit_or, Bool.or_eq_true] at hi
        rcases hi with (hi | hi) | hi
        · exact hs i hi
        · rw [Nat.testBit_two_pow] at hi
          have : e.on = i := by simpa using hi
          exact this ▸ hedge
        · exact (hacc _ _ hi).trans hedge
      · exact hs i hi
  exact go _ 0 (fun e he => Array.mem_def.2 he) (fun i hi => by simp at hi) i h

theorem masks_spec {ops : Array Oper} : ∀ (l : List Oper) (acc : List Nat), (∀ (j : Nat) o, l[j]? = some o → ops[acc.length + j]? = some o) → (∀ (k i : Nat), (acc.getD k 0).testBit i = true → Anc ops i k) →
    ∀ (k i : Nat), ((masks l acc).getD k 0).testBit i = true → Anc ops i k
  | [], acc, _, h => h
  | o :: l, acc, hl, h => by
    refine masks_spec l _ (fun j o' hj => ?_) ?_
    · have := hl (j + 1) o' (by simpa using hj)
      simpa [Nat.add_assoc, Nat.add_comm 1 j] using this
    · intro k i hk
      simp only [List.getD_eq_getElem?_getD] at hk
      by_cases hlt : k < acc.length
      · rw [List.getElem?_append_left hlt, ← List.getD_eq_getElem?_getD] at hk; exact h k i hk
      · by_cases heq : k = acc.length
        · subst heq
          rw [List.getElem?_append_right (Nat.le_refl _)] at hk
          simp only [Nat.sub_self, List.getElem?_cons_zero, Option.getD_some] at hk
          exact maskOf_spec (by simpa using hl 0 o (by simp)) h hk
        · rw [List.getElem?_eq_none (by simp; omega)] at hk
          simp at hk

/-- a set of operations that holds what comes before its own -/
def Down (ops : Array Oper) (S : Nat → Bool) : Prop := ∀ (j : Nat) o, ops[j]? = some o → S j = true → ∀ e ∈ o.after, Region.binds .any e = true → S e.on = true
theorem Down.anc {ops : Array Oper} {S : Nat → Bool} (h : Down ops S) {i j : Nat} (ha : Anc ops i j) : S j = true → S i = true := by
  induction ha with
  | edge j o e ho he hb => exact fun hj => h j o ho hj e he hb
  | trans _ _ ih1 ih2 => exact fun hk => ih1 (ih2 hk)

/-! ### one order, that of the page -/

/-- classes: 0 an operation that leaves the heap, 1 one that does not look at it, 2 one that changes it -/
def tmpsOf (l : List Operand) : List Nat := l.filterMap fun | .tmp t => some t | _ => none
def readsOf (ops : Array Oper) (o : Oper) : List Nat := tmpsOf o.op.operands.toList ++ match o.guard with
  | some (j, _) => ((ops[j]?).bind (·.dst)).toList
  | none => []

def clash (ops : Array Oper) (a b : Oper) (ca cb : Nat) : Bool :=
  (match a.dst with | some d => (readsOf ops b).contains d || b.dst == some d | none => false) || (match b.dst with | some d => (readsOf ops a).contains d | none => false) ||
  (ca == 2 && cb != 1) || (ca != 1 && cb == 2 && !addsK b.op)

def pairsOk (ops : Array Oper) (ms : List Nat) : List (Nat × Nat) → Bool
  | [] => true
  | (i, ci) :: l => (l.all fun p => match ops[i]?, ops[p.1]? with
      | some a, some b => !clash ops a b ci p.2 || (ms.getD p.1 0).testBit i
      | _, _ => false) && pairsOk ops ms l

def topo (ops : Array Oper) : List Nat → List (Nat × Nat) → Bool
  | _, [] => true
  | pre, (i, _) :: l => (match ops[i]? with
    | some o => o.after.toList.all fun e => !Region.binds .any e || pre.contains e.on
    | none => false) && topo ops (i :: pre) l

def isCall (o : Oper) : Bool := match o.op with
  | .call c => match c.callee with | .value _ => true | _ => false
  | _ => false
def kindOk (o : Oper) (c : Nat) : Bool :=
  (isCall o && c != 2) || (lightK o.op && c != 2) || (c == 2 && (addsK o.op || writesK o.op))

def noDup : List Nat → Bool
  | [] => true
  | x :: l => !l.contains x && noDup l

def anyOk (ops : Array Oper) (π : List (Nat × Nat)) : Bool :=
  π.length == ops.size && pairsOk ops (masks ops.toList []) π && topo ops [] π && noDup (π.map (·.1)) && ((List.range ops.size).all fun i => (π.map (·.1)).contains i) &&
  π.all fun p => match ops[p.1]? with | some o => kindOk o p.2 | none => false

/-- what an operation yields -/
def StepA (P : Program) (ops : Array Oper) (tm : Nat → AV) (h : AH) (c : Nat) (o : Oper) (r : AV) (h' : AH) : Prop :=
  match awanted ops tm o with
  | some false => r = .v undef ∧ h' = h
  | some true =>
    match o.op with
    | .call ⟨.value f, args, tys⟩ => (∀ hx, FunW P (AS.ev ⟨tm, []⟩ f) (args.toList.map (AS.ev ⟨tm, []⟩)) hx fun out h'' => out = .ret r ∧ h'' = hx) ∧ h' = h
    | op => if c = 1 then (∃ h1, aop P (AS.ev ⟨tm, []⟩) o.type [] op = some (r, h1)) ∧ h' = h else aop P (AS.ev ⟨tm, []⟩) o.type h op = some (r, h')
  | none => False

theorem ev_any (tm : Nat → AV) (h h' : AH) (x : Operand) : AS.ev ⟨tm, h⟩ x = AS.ev ⟨tm, h'⟩ x := by cases x <;> rfl

/-- it looks at its operands and its guard alone -/
theorem awanted_congr {ops : Array Oper} {tm tm' : Nat → AV} {o : Oper} (h : ∀ t ∈ readsOf ops o, tm t = tm' t) : awanted ops tm o = awanted ops tm' o := by
  unfold awanted
  cases hg : o.guard with
  | none => rfl
  | some jw =>
    obtain ⟨j, want⟩ := jw
    simp only
    cases hd : (ops[j]?).bind (·.dst) with
    | none => rfl
    | some d =>
      have : tm d = tm' d := h d (by unfold readsOf; rw [hg]; simp [hd])
      simp only [this]

theorem ev_congr {ops : Array Oper} {tm tm' : Nat → AV} {o : Oper} (h : ∀ t ∈ readsOf ops o, tm t = tm' t) : ∀ x ∈ o.op.operands, AS.ev ⟨tm, []⟩ x = AS.ev ⟨tm', []⟩ x := by
  intro x hx
  cases x with
  | tmp t => exact h t (by unfold readsOf tmpsOf; exact List.mem_append_left _ (List.mem_filterMap.2 ⟨.tmp t, Array.mem_def.1 hx, rfl⟩))
  | _ => rfl

theorem isCall_spec {o : Oper} (h : isCall o = true) : ∃ f args tys, o.op = .call ⟨.value f, args, tys⟩ := by
  unfold isCall at h
  cases ho : o.op with
  | call c =>
    obtain ⟨cal, args, tys⟩ := c
    cases cal with
    | value f => exact ⟨f, args, tys, rfl⟩
    | _ => simp [ho] at h
  | _ => simp [ho] at h

/-- taken at another state -/
theorem StepA.turn {P : Program} {ops : Array Oper} {tm tm' : Nat → AV} {h h2 h' : AH} {c : Nat} {o : Oper} {r : AV} (hs : StepA P ops tm h c o r h') (hk : kindOk o c = true) (ht : ∀ t ∈ readsOf ops o, tm' t = tm t)
    (hh : (c = 2 ∧ h2 = h) ∨ (c ≠ 2 ∧ (c = 1 ∨ Keep h h2))) (N : Nat) :
    (awanted ops tm' o = some false ∧ r = .v undef ∧ (if c = 2 then h' else h2) = h2) ∨
    (awanted ops tm' o = some true ∧ ∀ (K : AS → Prop) (E : AV → AS → Prop), K (AS.put N ⟨tm', if c = 2 then h' else h2⟩ o.dst r) → OpW P N o ⟨tm', h2⟩ K E) := by
  unfold StepA at hs
  rw [awanted_congr ht]
  split at hs
  · rename_i hw
    obtain ⟨rfl, rfl⟩ := hs
    refine .inl ⟨hw, rfl, ?_⟩
    rcases hh with ⟨rfl, rfl⟩ | ⟨hc, _⟩
    · simp
    · simp [hc]
  · rename_i hw
    refine .inr ⟨hw, fun K E hK => ?_⟩
    split at hs
    · rename_i f args tys hop
      obtain ⟨hs, rfl⟩ := hs
      have hc : c ≠ 2 := by
        intro e; subst e
        simp [kindOk, isCall, hop, lightK, addsK, writesK] at hk
      simp only [if_neg hc] at hK
      unfold OpW
      simp only [hop]
      have hev := ev_congr ht
      rw [hop] at hev
      have h1 : AS.ev ⟨tm', h2⟩ f = AS.ev ⟨tm, []⟩ f := (ev_any _ _ _ _).trans (hev f (by simp [Op.operands, Call.operands]))
      have h2' : args.toList.map (AS.ev ⟨tm', h2⟩) = args.toList.map (AS.ev ⟨tm, []⟩) := List.map_congr_left fun x hx => (ev_any _ _ _ _).trans (hev x (by simp [Op.operands, Call.operands, Array.mem_def, hx]))
      rw [h1, h2']
      exact (hs h2).mono fun out h'' ⟨e1, e2⟩ => by subst e1; subst e2; exact hK
    · rename_i op hnc
      have hcall : isCall o = false := by
        cases hc : isCall o with
        | false => rfl
        | true => obtain ⟨f, args, tys, e⟩ := isCall_spec hc; exact (hnc _ _ _ e).elim
      simp only [kindOk, hcall, Bool.false_and, Bool.false_or, Bool.or_eq_true, Bool.and_eq_true] at hk
      -- what it is over the heap at hand
      have key : aop P (AS.ev ⟨tm', h2⟩) o.type h2 o.op = some (r, if c = 2 then h' else h2) := by
        have hcongr : ∀ hx, aop P (AS.ev ⟨tm', h2⟩) o.type hx o.op = aop P (AS.ev ⟨tm, []⟩) o.type hx o.op := fun hx => by
          refine aop_congr (fun x hx => (ev_any _ _ _ _).trans (ev_congr ht x hx)) ?_
          rcases hk with ⟨h1, _⟩ | ⟨_, h1 | h1⟩
          · simp [h1]
          · simp [h1]
          · simp [h1]
        rw [hcongr]
        rcases hh with ⟨rfl, rfl⟩ | ⟨hc, hh⟩
        · simpa using hs
        · have hl : lightK o.op = true := by
            rcases hk with ⟨h1, _⟩ | ⟨h1, _⟩
            · exact h1
            · simp at h1; exact (hc h1).elim
          rw [if_neg hc]
          by_cases hc1 : c = 1
          · rw [if_pos hc1] at hs
            obtain ⟨⟨h1, hs⟩, _⟩ := hs
            exact (aop_mono (Keep.nil h2) hl hs).2
          · rw [if_neg hc1] at hs
            rcases hh with hh | hh
            · exact (hc1 hh).elim
            · exact (aop_mono hh hl hs).2
      unfold OpW
      split
      · rename_i t ps hop
        rw [hop] at key
        simp only [aop] at key
        have key0 := key
        unfold aBuildSlice at key
        cases he : elemInfo P t with
        | none => simp [he] at key
        | some en =>
          obtain ⟨e, n⟩ := en
          simp only [he, if_true] at key
          split at key
          · rename_i hcond
            have hps : ps.toList = [] := by
              have := congrArg List.length hcond.1
              simpa using this
            simp only [Option.some.injEq, Prod.mk.injEq] at key
            obtain ⟨e1, e2⟩ := key
            simp only [hps, List.map_nil] at key0 ⊢
            rw [← e2] at hK key0
            rw [← e1] at hK key0
            exact ⟨key0, .inl hK⟩
          · cases key
      · rename_i q hop
        obtain ⟨cal, args, tys⟩ := q
        cases cal with
        | value f => simp [isCall, hop] at hcall
        | _ => simp only [key]; exact hK
      · rename_i x hop
        rw [hop] at key; simp [aop] at key
      · rw [key]; exact hK
  · exact hs.elim

/-! ### the operations of a set, in the order of the page -/

structure Tr where
  i : Nat
  c : Nat
  o : Oper
  r : AV
  h' : AH

def putT (N : Nat) (tm : Nat → AV) (d : Option Tmp) (r : AV) : Nat → AV := match d with
  | some d => if d < N then upd tm d r else tm
  | none => tm
theorem put_eq (N : Nat) (tm : Nat → AV) (h : AH) (d : Option Tmp) (r : AV) : AS.put N ⟨tm, h⟩ d r = ⟨putT N tm d r, h⟩ := by
  cases d with
  | none => rfl
  | some d => simp only [AS.put, putT]; split <;> rfl
theorem putT_ne {N : Nat} {tm : Nat → AV} {d : Option Tmp} {r : AV} {x : Nat} (h : d ≠ some x) : putT N tm d r x = tm x := by
  cases d with
  | none => rfl
  | some d =>
    simp only [putT]
    split
    · rw [upd_ne]; intro e; exact h (by rw [e])
    · rfl
theorem putT_congr {N : Nat} {tm tm' : Nat → AV} {d : Option Tmp} {r : AV} {x : Nat} (h : d ≠ some x → tm x = tm' x) (h' : tm x = tm' x ∨ x < N) : putT N tm d r x = putT N tm' d r x := by
  cases d with
  | none => exact h (by simp)
  | some d =>
    simp only [putT]
    by_cases hx : x = d
    · subst hx
      split
      · simp
      · rename_i hn
        rcases h' with h' | h'
        · exact h'
        · exact (hn h').elim
    · have := h (by intro e; cases e; exact hx rfl)
      split
      · rw [upd_ne _ _ hx, upd_ne _ _ hx]; exact this
      · exact this

def tmS (N : Nat) (S : Nat → Bool) : List Tr → (Nat → AV) → (Nat → AV)
  | [], f => f
  | t :: l, f => tmS N S l (if S t.i then putT N f t.o.dst t.r else f)
def hS (S : Nat → Bool) : List Tr → AH → AH
  | [], h => h
  | t :: l, h => hS S l (if S t.i && t.c == 2 then t.h' else h)

theorem tmS_app (N : Nat) (S : Nat → Bool) : ∀ (l m : List Tr) (f : Nat → AV), tmS N S (l ++ m) f = tmS N S m (tmS N S l f)
  | [], m, f => rfl
  | t :: l, m, f => tmS_app N S l m _
theorem hS_app (S : Nat → Bool) : ∀ (l m : List Tr) (f : AH), hS S (l ++ m) f = hS S m (hS S l f)
  | [], m, f => rfl
  | t :: l, m, f => hS_app S l m _

/-- nothing of the set writes it -/
theorem tmS_skip {N : Nat} {S : Nat → Bool} {x : Nat} : ∀ {l : List Tr} {f : Nat → AV}, (∀ t ∈ l, S t.i = true → t.o.dst ≠ some x) → tmS N S l f x = f x
  | [], f, h => rfl
  | t :: l, f, h => by
    simp only [tmS]
    rw [tmS_skip (fun t ht => h t (by simp [ht]))]
    split
    · rename_i hs; exact putT_ne (h t (by simp) hs)
    · rfl
/-- all that writes it is in the set -/
theorem tmS_same {N : Nat} {S S' : Nat → Bool} {x : Nat} : ∀ {l : List Tr} {f f' : Nat → AV}, f x = f' x → (∀ t ∈ l, t.o.dst = some x → S t.i = S' t.i) → tmS N S l f x = tmS N S' l f' x
  | [], f, f', hf, h => hf
  | t :: l, f, f', hf, h => by
    simp only [tmS]
    refine tmS_same ?_ (fun t ht => h t (by simp [ht]))
    by_cases hd : t.o.dst = some x
    · rw [h t (by simp) hd]
      split
      · exact putT_congr (fun _ => hf) (.inl hf)
      · exact hf
    · have e1 : ∀ (b : Bool) (g : Nat → AV), (if b = true then putT N g t.o.dst t.r else g) x = g x := fun b g => by
        split
        · exact putT_ne hd
        · rfl
      rw [e1, e1]; exact hf
theorem hS_same {S S' : Nat → Bool} : ∀ {l : List Tr} {f : AH}, (∀ t ∈ l, t.c = 2 → S t.i = S' t.i) → hS S l f = hS S' l f
  | [], f, h => rfl
  | t :: l, f, h => by
    simp only [hS]
    by_cases hc : t.c = 2
    · rw [h t (by simp) hc]; exact hS_same fun t ht => h t (by simp [ht])
    · have : (t.c == 2) = false := by simpa using hc
      rw [this, Bool.and_false, Bool.and_false]; exact hS_same fun t ht => h t (by simp [ht])
theorem hS_skip {S : Nat → Bool} : ∀ {l : List Tr} {f : AH}, (∀ t ∈ l, t.c = 2 → S t.i = false) → hS S l f = f
  | [], f, h => rfl
  | t :: l, f, h => by
    simp only [hS]
    have : (S t.i && t.c == 2) = false := by
      by_cases hc : t.c = 2
      · rw [h t (by simp) hc]; rfl
      · have : (t.c == 2) = false := by simpa using hc
        rw [this, Bool.and_false]
    rw [this]
    exact hS_skip fun t ht => h t (by simp [ht])

/-- a run of the page -/
inductive Runs (P : Program) (N : Nat) (ops : Array Oper) : List Tr → (Nat → AV) → AH → Prop
  | nil (tm : Nat → AV) (h : AH) : Runs P N ops [] tm h
  | cons (t : Tr) (l : List Tr) (tm : Nat → AV) (h : AH) (ho : ops[t.i]? = some t.o) (hk : kindOk t.o t.c = true) (hs : StepA P ops tm h t.c t.o t.r t.h') (hl : Runs P N ops l (putT N tm t.o.dst t.r) (if t.c = 2 then t.h' else h)) : Runs P N ops (t :: l) tm h

theorem Runs.split {P : Program} {N : Nat} {ops : Array Oper} : ∀ {l m : List Tr} {tm : Nat → AV} {h : AH}, Runs P N ops (l ++ m) tm h → Runs P N ops m (tmS N (fun _ => true) l tm) (hS (fun _ => true) l h)
  | [], m, tm, h, H => H
  | t :: l, m, tm, h, H => by
    cases H with
    | cons t l tm h ho hk hs hl =>
      have := Runs.split hl
      simp only [tmS, hS, if_true, Bool.true_and, beq_iff_eq]
      exact this

/-- what is added between -/
theorem Runs.keep {P : Program} {N : Nat} {ops : Array Oper} {S : Nat → Bool} : ∀ {l : List Tr} {tm : Nat → AV} {h : AH}, Runs P N ops l tm h → (∀ t ∈ l, t.c = 2 → S t.i = true → addsK t.o.op = true) →
    l.Pairwise (fun a b => a.c = 2 → b.c = 2 → S b.i = true → S a.i = true) → Keep h (hS S l h)
  | [], tm, h, H, _, _ => Keep.refl h
  | t :: l, tm, h, H, ha, hp => by
    cases H with
    | cons t l tm h ho hk hs hl =>
      simp only [hS]
      obtain ⟨hp1, hp2⟩ := List.pairwise_cons.1 hp
      by_cases hc : t.c = 2
      · cases hS' : S t.i with
        | true =>
          simp only [hc, beq_self_eq_true, Bool.and_self, if_true]
          rw [if_pos hc] at hl
          refine Keep.trans ?_ (Runs.keep hl (fun t ht => ha t (by simp [ht])) hp2)
          have hadd := ha t (by simp) hc hS'
          unfold StepA at hs
          split at hs
          · rw [hs.2]; exact Keep.refl _
          · split at hs
            · rw [hs.2]; exact Keep.refl _
            · rw [hc] at hs
              exact aop_keep hadd hs
          · exact hs.elim
        | false =>
          simp only [Bool.false_and, Bool.false_eq_true, if_false]
          rw [hS_skip (fun t' ht' hc' => ?_)]
          · exact Keep.refl _
          · cases hb : S t'.i with
            | false => rfl
            | true => have := hp1 t' ht' hc hc' hb; rw [hS'] at this; cases this
      · have : (t.c == 2) = false := by simpa using hc
        rw [if_neg hc] at hl
        rw [this, Bool.and_false]
        exact Runs.keep hl (fun t ht => ha t (by simp [ht])) hp2

/-! ### the walk -/

/-- a call that leaves the heap, whatever the heap -/
def CallA (P : Program) (N : Nat) (fv : AV) (args : List AV) (s : AS) (d : Option Tmp) (K : AS → Prop) : Prop :=
  ∃ r, (∀ hx, FunW P fv args hx fun out h'' => out = .ret r ∧ h'' = hx) ∧ K (AS.put N s d r)

def AnyO (P : Program) (N : Nat) (ops : Array Oper) (c : Nat) (o : Oper) (s : AS) (K : AS → Prop) : Prop :=
  match awanted ops s.tm o with
  | some false => K (AS.put N s o.dst (.v undef))
  | some true =>
    match o.op with
    | .call ⟨.value f, args, tys⟩ => CallA P N (s.ev f) (args.toList.map s.ev) s o.dst K
    | op => match aop P s.ev o.type (if c = 1 then [] else s.h) op with
      | some (r, h') => K (AS.put N { s with h := if c = 1 then s.h else h' } o.dst r)
      | none => False
  | none => False

def AnyW (P : Program) (N : Nat) (ops : Array Oper) : List (Nat × Nat) → (AS → Prop) → AS → Prop
  | [], K, s => K s
  | (i, c) :: l, K, s => match ops[i]? with
    | some o => AnyO P N ops c o s (AnyW P N ops l K)
    | none => False

theorem anyW_runs {P : Program} {N : Nat} {ops : Array Oper} {K : AS → Prop} : ∀ {π : List (Nat × Nat)} {tm : Nat → AV} {h : AH}, AnyW P N ops π K ⟨tm, h⟩ → (π.all fun p => match ops[p.1]? with | some o => kindOk o p.2 | none => false) = true →
    ∃ tr : List Tr, tr.map (fun t => (t.i, t.c)) = π ∧ Runs P N ops tr tm h ∧ K ⟨tmS N (fun _ => true) tr tm, hS (fun _ => true) tr h⟩
  | [], tm, h, H, _ => ⟨[], rfl, .nil _ _, H⟩
  | (i, c) :: π, tm, h, H, hk => by
    simp only [List.all_cons, Bool.and_eq_true] at hk
    obtain ⟨hk1, hk2⟩ := hk
    simp only [AnyW] at H
    cases ho : ops[i]? with
    | none => simp [ho] at H
    | some o =>
      simp only [ho] at H hk1
      -- a step, and the rest
      have fin : ∀ (r : AV) (h' : AH), StepA P ops tm h c o r h' → AnyW P N ops π K ⟨putT N tm o.dst r, if c = 2 then h' else h⟩ →
          ∃ tr : List Tr, tr.map (fun t => (t.i, t.c)) = (i, c) :: π ∧ Runs P N ops tr tm h ∧ K ⟨tmS N (fun _ => true) tr tm, hS (fun _ => true) tr h⟩ := by
        intro r h' hs hw
        obtain ⟨tr, h1, h2, h3⟩ := anyW_runs hw hk2
        refine ⟨⟨i, c, o, r, h'⟩ :: tr, by simp [h1], .cons ⟨i, c, o, r, h'⟩ tr tm h ho hk1 hs h2, ?_⟩
        simp only [tmS, hS, if_true, Bool.true_and, beq_iff_eq]
        exact h3
      unfold AnyO at H
      simp only at H
      split at H
      · rename_i hw
        rw [put_eq] at H
        refine fin (.v undef) h (by unfold StepA; simp only [hw, and_self]) ?_
        simpa using H
      · rename_i hw
        split at H
        · rename_i f args tys hop
          obtain ⟨r, hf, H⟩ := H
          rw [put_eq] at H
          refine fin r h ?_ (by simpa using H)
          unfold StepA
          simp only [hw, hop, and_true]
          intro hx
          have h1 : AS.ev ⟨tm, []⟩ f = AS.ev ⟨tm, h⟩ f := ev_any _ _ _ _
          have h2 : args.toList.map (AS.ev ⟨tm, []⟩) = args.toList.map (AS.ev ⟨tm, h⟩) := List.map_congr_left fun x _ => ev_any _ _ _ _
          rw [h1, h2]
          exact hf hx
        · rename_i op hnc
          have hev : AS.ev ⟨tm, h⟩ = AS.ev ⟨tm, []⟩ := funext fun x => ev_any _ _ _ _
          have hstep : ∀ r h', (if c = 1 then (∃ h1, aop P (AS.ev ⟨tm, []⟩) o.type [] o.op = some (r, h1)) ∧ h' = h else aop P (AS.ev ⟨tm, []⟩) o.type h o.op = some (r, h')) → StepA P ops tm h c o r h' := by
            intro r h' hh
            unfold StepA
            rw [hw]
            cases hop : o.op with
            | call q =>
              obtain ⟨cal, args, tys⟩ := q
              cases cal with
              | value f => exact (hnc _ _ _ hop).elim
              | _ => rw [hop] at hh; exact hh
            | _ => rw [hop] at hh; exact hh
          split at H
          · rename_i r h' ha
            rw [put_eq] at H
            rw [hev] at ha
            by_cases hc1 : c = 1
            · subst hc1
              simp only [if_true] at ha
              refine fin r h (hstep r h ?_) ?_
              · rw [if_pos rfl]; exact ⟨⟨_, ha⟩, rfl⟩
              · simpa using H
            · simp only [if_neg hc1] at ha H
              refine fin r h' (hstep r h' (by rw [if_neg hc1]; exact ha)) ?_
              by_cases hc2 : c = 2
              · rw [if_pos hc2]; exact H
              · rw [if_neg hc2]
                have hl : lightK o.op = true := by
                  have hcall : isCall o = false := by
                    cases hc : isCall o with
                    | false => rfl
                    | true => obtain ⟨f, args, tys, e⟩ := isCall_spec hc; exact (hnc _ _ _ e).elim
                  simp only [kindOk, hcall, Bool.false_and, Bool.false_or, Bool.or_eq_true, Bool.and_eq_true] at hk1
                  rcases hk1 with ⟨h1, _⟩ | ⟨h1, _⟩
                  · exact h1
                  · simp at h1; exact (hc2 h1).elim
                have := (aop_mono (Keep.refl h) hl ha).1
                rw [← this]; exact H
          · exact H.elim
      · exact H.elim

theorem pairs_spec {ops : Array Oper} {ms : List Nat} (hm : ∀ (k i : Nat), (ms.getD k 0).testBit i = true → Anc ops i k) : ∀ (tr : List Tr), pairsOk ops ms (tr.map fun t => (t.i, t.c)) = true → (∀ t ∈ tr, ops[t.i]? = some t.o) →
    tr.Pairwise (fun a b => clash ops a.o b.o a.c b.c = true → Anc ops a.i b.i)
  | [], _, _ => .nil
  | t :: l, h, ho => by
    simp only [List.map_cons, pairsOk, Bool.and_eq_true, List.all_eq_true] at h
    refine List.pairwise_cons.2 ⟨fun b hb hc => ?_, pairs_spec hm l h.2 fun t ht => ho t (by simp [ht])⟩
    have := h.1 (b.i, b.c) (List.mem_map.2 ⟨b, hb, rfl⟩)
    simp only [ho t (by simp), ho b (by simp [hb]), hc, Bool.not_true, Bool.false_or] at this
    exact hm _ _ this

theorem noDup_spec : ∀ {l : List Nat}, noDup l = true → l.Nodup
  | [], _ => List.nodup_nil
  | x :: l, h => by
    simp only [noDup, Bool.and_eq_true, Bool.not_eq_true'] at h
    exact List.nodup_cons.2 ⟨by simpa using h.1, noDup_spec h.2⟩

theorem runs_ops {P : Program} {N : Nat} {ops : Array Oper} : ∀ {tr : List Tr} {tm : Nat → AV} {h : AH}, Runs P N ops tr tm h → ∀ t ∈ tr, ops[t.i]? = some t.o
  | [], _, _, _, t, ht => by cases ht
  | t :: l, tm, h, H, t', ht' => by
    cases H with
    | cons t l tm h ho hk hs hl =>
      rcases List.mem_cons.1 ht' with rfl | h'
      · exact ho
      · exact runs_ops hl t' h'

theorem topo_all {ops : Array Oper} {listed : Array Bool} (hsz : listed.size = ops.size) (hr : Region.ready .any ops listed = []) : ∀ (l : List (Nat × Nat)) (pre : List Nat), topo ops pre l = true → (∀ i ∈ pre, listed.getD i false = true) → ∀ p ∈ l, listed.getD p.1 false = true
  | [], _, _, _, p, hp => by cases hp
  | (i, c) :: l, pre, h, hpre, p, hp => by
    simp only [topo, Bool.and_eq_true] at h
    have hi : listed.getD i false = true := by
      cases ho : ops[i]? with
      | none => simp [ho] at h
      | some o =>
        have hlt : i < ops.size := (Array.getElem?_eq_some_iff.1 ho).1
        cases hb : listed.getD i false with
        | true => rfl
        | false =>
          have : i ∈ Region.ready .any ops listed := mem_ready.2 ⟨by
            rw [Array.getD_eq_getD_getElem?, Array.getElem?_eq_getElem (by omega)] at hb ⊢
            simpa using hb, o, ho, fun e he hbd => by
              simp only [ho, List.all_eq_true] at h
              have := h.1 e (Array.mem_def.1 he)
              rw [hbd] at this
              exact hpre _ (by simpa using this)⟩
          rw [hr] at this; cases this
    rcases List.mem_cons.1 hp with rfl | hp'
    · exact hi
    · exact topo_all hsz hr l (i :: pre) h.2 (fun j hj => by
        rcases List.mem_cons.1 hj with rfl | hj
        · exact hi
        · exact hpre j hj) p hp'

theorem getD_set {listed : Array Bool} {i j : Nat} (hi : i < listed.size) : (listed.setIfInBounds i true).getD j false = (decide (j = i) || listed.getD j false) := by
  rw [Array.getD_eq_getD_getElem?, Array.getD_eq_getD_getElem?]
  by_cases h : j = i
  · subst h; rw [Array.getElem?_setIfInBounds_self_of_lt hi]; simp
  · rw [Array.getElem?_setIfInBounds_ne (fun e => h e.symm)]; simp [h]

theorem wpAny_ab {P : Program} {N : Nat} {base : Nat × Fence} {ops : Array Oper} {F : Fence} {n : Nat} (hF : WF F) {Qx : Exit → Act → World → Prop} {tr : List Tr} {tm0 : Nat → AV} {h0 : AH} (hruns : Runs P N ops tr tm0 h0)
    (hpw : tr.Pairwise (fun a b => clash ops a.o b.o a.c b.c = true → Anc ops a.i b.i)) (htopo : topo ops [] (tr.map fun t => (t.i, t.c)) = true) (hnd : (tr.map (·.i)).Nodup) (hall : ∀ i, i < ops.size → ∃ t ∈ tr, t.i = i) (hkind : ∀ t ∈ tr, kindOk t.o t.c = true) :
    ∀ (fuel : Nat) (listed : Array Bool) (c : Cx) (a : Act), listed.size = ops.size → Down ops (fun i => listed.getD i false) → St c → SR N base c ⟨tmS N (fun i => listed.getD i false) tr tm0, hS (fun i => listed.getD i false) tr h0⟩ a →
      tr.countP (fun t => !listed.getD t.i false) ≤ fuel →
      (∀ c' a', Ev c c' → St c' → SR N base c' ⟨tmS N (fun _ => true) tr tm0, hS (fun _ => true) tr h0⟩ a' → Qx .normal a' c'.w) → wpAnyIn F n P .any ops Qx fuel listed a c.w := by
  -- the end
  have done : ∀ (listed : Array Bool) (c : Cx) (a : Act), listed.size = ops.size → St c → SR N base c ⟨tmS N (fun i => listed.getD i false) tr tm0, hS (fun i => listed.getD i false) tr h0⟩ a →
      (∀ c' a', Ev c c' → St c' → SR N base c' ⟨tmS N (fun _ => true) tr tm0, hS (fun _ => true) tr h0⟩ a' → Qx .normal a' c'.w) → (∀ t ∈ tr, listed.getD t.i false = true) → Qx .normal a c.w := by
    intro listed c a hsz hst hr hQ hl
    refine hQ c a (Ev.refl c) hst ?_
    have e1 : tmS N (fun i => listed.getD i false) tr tm0 = tmS N (fun _ => true) tr tm0 := funext fun x => tmS_same rfl fun t ht _ => hl t ht
    have e2 : hS (fun i => listed.getD i false) tr h0 = hS (fun _ => true) tr h0 := hS_same fun t ht _ => hl t ht
    rw [e1, e2] at hr
    exact hr
  have ready0 : ∀ (listed : Array Bool), listed.size = ops.size → Region.ready .any ops listed = [] → ∀ t ∈ tr, listed.getD t.i false = true := fun listed hsz h t ht =>
    topo_all hsz h _ [] htopo (fun i hi => by cases hi) (t.i, t.c) (List.mem_map.2 ⟨t, ht, rfl⟩)
  intro fuel
  induction fuel with
  | zero =>
    intro listed c a hsz hd hst hr hc hQ
    have hl : ∀ t ∈ tr, listed.getD t.i false = true := fun t ht => by
      have := List.countP_eq_zero.1 (Nat.le_zero.1 hc) t ht
      simpa using this
    refine ⟨?_, done listed c a hsz hst hr hQ hl⟩
    cases hrd : Region.ready .any ops listed with
    | nil => rfl
    | cons i l =>
      have hi : i ∈ Region.ready .any ops listed := by rw [hrd]; simp
      obtain ⟨h1, o, ho, _⟩ := mem_ready.1 hi
      have hlt : i < ops.size := (Array.getElem?_eq_some_iff.1 ho).1
      obtain ⟨t, ht, rfl⟩ := hall i hlt
      have := hl t ht
      rw [Array.getD_eq_getD_getElem?, Array.getElem?_eq_getElem (by omega)] at this h1
      simp only [Option.getD_some] at this h1
      rw [this] at h1; cases h1
  | succ fuel ih =>
    intro listed c a hsz hd hst hr hc hQ
    refine ⟨fun h => done listed c a hsz hst hr hQ (ready0 listed hsz h), fun i hi => ?_⟩
    obtain ⟨h1, o, ho, hedge⟩ := mem_ready.1 hi
    have hlt : i < ops.size := (Array.getElem?_eq_some_iff.1 ho).1
    have hSi : listed.getD i false = false := by
      rw [Array.getD_eq_getD_getElem?, Array.getElem?_eq_getElem (by omega)] at h1 ⊢
      simpa using h1
    obtain ⟨t, ht, rfl⟩ := hall i hlt
    obtain ⟨pre, post, htr⟩ := List.append_of_mem ht
    have hto : t.o = o := by
      have := runs_ops hruns t ht
      rw [ho] at this; cases this; rfl
    subst hto
    -- the set with it
    have hS' : ∀ j, (listed.setIfInBounds t.i true).getD j false = (decide (j = t.i) || listed.getD j false) := fun j => getD_set (by omega)
    have hd' : Down ops (fun j => (listed.setIfInBounds t.i true).getD j false) := by
      intro j oj hoj hj e he hb
      dsimp only at hj ⊢
      rw [hS'] at hj ⊢
      by_cases hji : j = t.i
      · subst hji
        rw [ho] at hoj; cases hoj
        rw [hedge e he hb]; simp
      · have : listed.getD j false = true := by simpa [hji] using hj
        have h2 : listed.getD e.on false = true := hd j oj hoj this e he hb
        rw [h2]; simp
    have hanc : ∀ j, Anc ops j t.i → j ≠ t.i → listed.getD j false = true := fun j hj hne => by
      have := hd'.anc hj (by show _ = true; rw [hS']; simp)
      have h2 : (listed.setIfInBounds t.i true).getD j false = true := this
      rw [hS'] at h2
      simpa [hne] using h2
    have hnot : ∀ j, Anc ops t.i j → listed.getD j false = false := fun j hj => by
      cases hb : listed.getD j false with
      | false => rfl
      | true => have := hd.anc hj hb; rw [hSi] at this; cases this
    -- the others
    have hne : ∀ b, b ∈ pre ∨ b ∈ post → b.i ≠ t.i := by
      rw [htr] at hnd
      simp only [List.map_append, List.map_cons] at hnd
      obtain ⟨n1, n2, n3⟩ := List.nodup_append.1 hnd
      intro b hb e
      rcases hb with hb | hb
      · exact n3 b.i (List.mem_map.2 ⟨b, hb, rfl⟩) t.i (by simp) e
      · exact (List.nodup_cons.1 n2).1 (List.mem_map.2 ⟨b, hb, e⟩)
    rw [htr] at hpw
    obtain ⟨p1, p2, p3⟩ := List.pairwise_append.1 hpw
    obtain ⟨p4, p5⟩ := List.pairwise_cons.1 p2
    have hpre : ∀ b ∈ pre, clash ops b.o t.o b.c t.c = true → listed.getD b.i false = true := fun b hb hcl => hanc _ (p3 b hb t (by simp) hcl) (hne b (.inl hb))
    have hpost : ∀ b ∈ post, clash ops t.o b.o t.c b.c = true → listed.getD b.i false = false := fun b hb hcl => hnot _ (p4 b hb hcl)
    have hsame : ∀ b, b ∈ pre ∨ b ∈ post → (listed.setIfInBounds t.i true).getD b.i false = listed.getD b.i false := fun b hb => by
      rw [hS']; simp [hne b hb]
    -- what it looks at
    have hsplit := hruns
    rw [htr] at hsplit
    have hs2 := Runs.split hsplit
    have hstep : StepA P ops (tmS N (fun _ => true) pre tm0) (hS (fun _ => true) pre h0) t.c t.o t.r t.h' := by cases hs2 with | cons _ _ _ _ _ _ hs _ => exact hs
    have hk : kindOk t.o t.c = true := hkind t ht
    have hreads : ∀ x ∈ readsOf ops t.o, tmS N (fun i => listed.getD i false) tr tm0 x = tmS N (fun _ => true) pre tm0 x := by
      intro x hx
      rw [htr, tmS_app, tmS_skip]
      · refine tmS_same rfl fun b hb hbd => hpre b hb ?_
        unfold clash; rw [hbd]; simp [hx]
      · intro b hb hbS hbd
        rcases List.mem_cons.1 hb with rfl | hb
        · rw [hSi] at hbS; cases hbS
        · rw [hpost b hb (by unfold clash; rw [hbd]; simp [hx])] at hbS; cases hbS
    have hclash2 : ∀ b ∈ pre, b.c = 2 → t.c ≠ 1 → listed.getD b.i false = true := fun b hb h2 ht1 => hpre b hb (by unfold clash; simp [h2, ht1])
    have hheapPre : t.c ≠ 1 → hS (fun i => listed.getD i false) pre h0 = hS (fun _ => true) pre h0 := fun ht1 => hS_same fun b hb h2 => hclash2 b hb h2 ht1
    have hh : (t.c = 2 ∧ hS (fun i => listed.getD i false) tr h0 = hS (fun _ => true) pre h0) ∨ (t.c ≠ 2 ∧ (t.c = 1 ∨ Keep (hS (fun _ => true) pre h0) (hS (fun i => listed.getD i false) tr h0))) := by
      by_cases hc2 : t.c = 2
      · refine .inl ⟨hc2, ?_⟩
        rw [htr, hS_app, hS_skip, hheapPre (by omega)]
        intro b hb hbc
        rcases List.mem_cons.1 hb with rfl | hb
        · exact hSi
        · exact hpost b hb (by unfold clash; simp [hc2, hbc])
      · refine .inr ⟨hc2, ?_⟩
        by_cases hc1 : t.c = 1
        · exact .inl hc1
        · refine .inr ?_
          rw [htr, hS_app, hheapPre hc1]
          refine Runs.keep hs2 ?_ ?_
          · intro b hb hbc hbS
            rcases List.mem_cons.1 hb with rfl | hb
            · exact (hc2 hbc).elim
            · cases hadd : addsK b.o.op with
              | true => rfl
              | false =>
                rw [hpost b hb (by unfold clash; simp [hc1, hc2, hbc, hadd])] at hbS; cases hbS
          · refine p2.imp ?_
            intro x y hxy hx hy hyS
            exact hd.anc (hxy (by unfold clash; simp [hx, hy])) hyS
    -- the state behind it
    have hpreS : tmS N (fun i => (listed.setIfInBounds t.i true).getD i false) pre tm0 = tmS N (fun i => listed.getD i false) pre tm0 := funext fun x => tmS_same rfl fun b hb _ => hsame b (.inl hb)
    have hpreH : hS (fun i => (listed.setIfInBounds t.i true).getD i false) pre h0 = hS (fun i => listed.getD i false) pre h0 := hS_same fun b hb _ => hsame b (.inl hb)
    have hSt : (listed.setIfInBounds t.i true).getD t.i false = true := by rw [hS']; simp
    have hstm : tmS N (fun i => (listed.setIfInBounds t.i true).getD i false) tr tm0 = putT N (tmS N (fun i => listed.getD i false) tr tm0) t.o.dst t.r := by
      funext x
      rw [htr, tmS_app, tmS_app, hpreS]
      simp only [tmS, hSt, hSi, if_true, Bool.false_eq_true, if_false]
      by_cases hdx : t.o.dst = some x
      · have hskip : ∀ b ∈ post, b.o.dst = some x → listed.getD b.i false = false := fun b hb hbd => hpost b hb (by unfold clash; rw [hdx, hbd]; simp)
        rw [tmS_skip (fun b hb hbS hbd => by rw [hsame b (.inr hb), hskip b hb hbd] at hbS; cases hbS)]
        have e := tmS_skip (N := N) (S := fun i => listed.getD i false) (x := x) (l := post) (f := tmS N (fun i => listed.getD i false) pre tm0) (fun b hb hbS hbd => by rw [hskip b hb hbd] at hbS; cases hbS)
        exact putT_congr (fun _ => e.symm) (.inl e.symm)
      · rw [putT_ne hdx]
        exact tmS_same (putT_ne hdx) fun b hb _ => hsame b (.inr hb)
    have hshp : hS (fun i => (listed.setIfInBounds t.i true).getD i false) tr h0 = if t.c = 2 then t.h' else hS (fun i => listed.getD i false) tr h0 := by
      rw [htr, hS_app, hS_app, hpreH]
      simp only [hS, hSt, hSi, Bool.true_and, Bool.false_and, Bool.false_eq_true, if_false, beq_iff_eq]
      by_cases hc2 : t.c = 2
      · rw [if_pos hc2, if_pos hc2]
        refine hS_skip fun b hb hbc => ?_
        rw [hsame b (.inr hb)]
        exact hpost b hb (by unfold clash; simp [hc2, hbc])
      · rw [if_neg hc2, if_neg hc2]
        exact hS_same fun b hb _ => hsame b (.inr hb)
    have hcount : tr.countP (fun u => !(listed.setIfInBounds t.i true).getD u.i false) ≤ fuel := by
      rw [htr] at hc ⊢
      simp only [List.countP_append, List.countP_cons, hSt, hSi, Bool.not_true, Bool.not_false, Bool.false_eq_true, if_false, if_true] at hc ⊢
      have c1 : pre.countP (fun u => !(listed.setIfInBounds t.i true).getD u.i false) = pre.countP (fun u => !listed.getD u.i false) := List.countP_congr fun b hb => by rw [hsame b (.inl hb)]
      have c2 : post.countP (fun u => !(listed.setIfInBounds t.i true).getD u.i false) = post.countP (fun u => !listed.getD u.i false) := List.countP_congr fun b hb => by rw [hsame b (.inr hb)]
      rw [c1, c2]; omega
    have next : ∀ c' a', Ev c c' → St c' → SR N base c' (AS.put N ⟨tmS N (fun i => listed.getD i false) tr tm0, if t.c = 2 then t.h' else hS (fun i => listed.getD i false) tr h0⟩ t.o.dst t.r) a' →
        wpAnyIn F n P .any ops Qx fuel (listed.setIfInBounds t.i true) a' c'.w := by
      intro c' a' hev hst' hr'
      rw [put_eq, ← hstm, ← hshp] at hr'
      exact ih _ c' a' (by simpa using hsz) hd' hst' hr' hcount fun c2 a2 e2 s2 r2 => hQ c2 a2 (Ev.trans hst hev e2) s2 r2
    unfold wpOpIn
    simp only [ho]
    rcases hstep.turn hk hreads hh N with ⟨hw, hru, hhe⟩ | ⟨hw, hop⟩
    · rw [awanted_sound hr hw]
      simp only [Bool.false_eq_true, if_false]
      refine ⟨fun f _ => hF.fn f, ?_⟩
      have hr' := hr.put hst (Ev.refl c) t.o.dst (.v undef)
      rw [hr.h] at hr'
      refine next c _ (Ev.refl c) hst ?_
      rw [hhe, hru]
      exact hr'
    · rw [awanted_sound hr hw]
      simp only [if_true]
      refine opW_sound (hop (fun s' => s' = AS.put N ⟨tmS N (fun i => listed.getD i false) tr tm0, if t.c = 2 then t.h' else hS (fun i => listed.getD i false) tr h0⟩ t.o.dst t.r) (fun _ _ => False) rfl) hF hst hr ?_ ?_
      · intro s' c' a' hs hev hst' hr'
        subst hs
        exact next c' a' hev hst' hr'
      · intro r s' c' x hf
        exact hf.elim

theorem codeW_region_any {P : Program} {N : Nat} {Q : AExit → AS → Prop} {s : AS} {id : Nat} {ops : Array Oper} (π : List (Nat × Nat)) (hm : P.follows .mixedOrders = true) (hok : anyOk ops π = true)
    (H : ∀ (K : AS → Prop), (∀ s, Q .normal s → K s) → AnyW P N ops π K s) : CodeW P N (.region id ops true) Q s := by
  intro F n base c a hF hst hr R hR
  refine wpIn_region_any hm ?_
  obtain ⟨tm, hp⟩ := s
  simp only [anyOk, Bool.and_eq_true] at hok
  obtain ⟨⟨⟨⟨⟨hp0, hp1⟩, hp2⟩, hp3⟩, hp4⟩, hp5⟩ := hok
  obtain ⟨tr, rfl, hruns, hK⟩ := anyW_runs (H _ (fun s h => h)) hp5
  have hev : Ev c (c.to { c.w with drawn := c.w.drawn + 1 }) := Ev.idle hst (Ev.refl c) rfl rfl rfl rfl fun k => .inl rfl
  have hst' : St (c.to { c.w with drawn := c.w.drawn + 1 }) := hst.idle rfl fun k o hk => .inl hk
  have hr' : SR N (base, F) (c.to { c.w with drawn := c.w.drawn + 1 }) ⟨tm, hp⟩ a := ⟨hr.h, hr.size, Nat.le_trans hr.above hev.size, hr.defers.ev hev, RoundOk.ev hev hr.round, fun t => (hr.tm t).ev hst hev⟩
  have hops := runs_ops hruns
  have hnone : ∀ j, (Array.replicate ops.size false).getD j false = false := fun j => by
    rw [Array.getD_eq_getD_getElem?, Array.getElem?_replicate]
    split <;> rfl
  refine wpAny_ab (base := (base, F)) hF hruns (pairs_spec (masks_spec ops.toList [] (fun j o h => by simpa using h) (fun k i h => by simp at h)) tr hp1 hops) hp2 ?_ ?_ ?_ _ _ (c.to { c.w with drawn := c.w.drawn + 1 }) a (by simp) ?_ hst' ?_ ?_ ?_
  · have := noDup_spec hp3
    rw [List.map_map] at this
    exact this
  · intro i hi
    have := List.all_eq_true.1 hp4 i (List.mem_range.2 hi)
    have : i ∈ (tr.map fun t => (t.i, t.c)).map (·.1) := by simpa using this
    rw [List.map_map] at this
    obtain ⟨t, ht, rfl⟩ := List.mem_map.1 this
    exact ⟨t, ht, rfl⟩
  · intro t ht
    have := List.all_eq_true.1 hp5 (t.i, t.c) (List.mem_map.2 ⟨t, ht, rfl⟩)
    simpa [hops t ht] using this
  · intro j o ho hj
    simp only at hj
    rw [hnone] at hj; cases hj
  · have e1 : tmS N (fun i => (Array.replicate ops.size false).getD i false) tr tm = tm := funext fun x => tmS_skip fun t _ h => by rw [hnone] at h; cases h
    have e2 : hS (fun i => (Array.replicate ops.size false).getD i false) tr hp = hp := hS_skip fun t _ _ => hnone _
    rw [e1, e2]; exact hr'
  · -- as many as there are
    have : tr.length ≤ ops.size := by
      have := beq_iff_eq.1 hp0
      simp only [List.length_map] at this; omega
    exact Nat.le_trans List.countP_le_length this
  · intro c' a' h1 h2 h3
    exact hR _ _ c' a' _ hK (Ev.trans hst hev h1) h2 h3 rfl

theorem codeW_seq_any {P : Program} {N : Nat} {Q : AExit → AS → Prop} {s : AS} {id : Nat} {ops : Array Oper} {y : Code} (π : List (Nat × Nat)) (hm : P.follows .mixedOrders = true) (hok : anyOk ops π = true)
    (H : ∀ (K : AS → Prop), (∀ s, CodeW P N y Q s → K s) → AnyW P N ops π K s) : CodeW P N (.seq (.region id ops true) y) Q s :=
  codeW_seq (codeW_region_any π hm hok fun K hK => H K hK)

section
variable (P : Program) (N : Nat) (ops : Array Oper) (tm : Nat → AV) (h : AH) (K : AS → Prop)
theorem anyW_nil : AnyW P N ops [] K ⟨tm, h⟩ = K ⟨tm, h⟩ := rfl
theorem anyW_cons (i c : Nat) (l : List (Nat × Nat)) : AnyW P N ops ((i, c) :: l) K ⟨tm, h⟩ = (match ops[i]? with | some o => AnyO P N ops c o ⟨tm, h⟩ (AnyW P N ops l K) | none => False) := rfl
theorem anyO_eq (c : Nat) (o : Oper) : AnyO P N ops c o ⟨tm, h⟩ K = (match awanted ops tm o with
  | some false => K (AS.put N ⟨tm, h⟩ o.dst (.v undef))
  | some true =>
    match o.op with
    | .call ⟨.value f, args, tys⟩ => CallA P N (AS.ev ⟨tm, h⟩ f) (args.toList.map (AS.ev ⟨tm, h⟩)) ⟨tm, h⟩ o.dst K
    | op => match aop P (AS.ev ⟨tm, h⟩) o.type (if c = 1 then [] else h) op with
      | some (r, h') => K (AS.put N ⟨tm, if c = 1 then h else h'⟩ o.dst r)
      | none => False
  | none => False) := rfl
end
end Go.Proofs.Ytplnbmldkgcedaa.Ab
