/-
  The abstract program logic: an operation, a region in the order of the text.
-/
import Derived.Test.YtplnbmldkgcedaaAbK
set_option linter.unusedVariables false
set_option maxHeartbeats 4000000
namespace Go.Proofs.Ytplnbmldkgcedaa.Ab

/-- may an operation be carried out, by its guard -/
def awanted (ops : Array Oper) (tm : Nat → AV) (o : Oper) : Option Bool :=
  match o.guard with
  | none => some true
  | some (j, want) => match (ops[j]?).bind (·.dst) with
    | some d => match tm d with
      | .v (.bool b) => some (b == want)
      | .v _ => some false
      | _ => none
    | none => some false

theorem awanted_sound {N : Nat} {base : Nat × Fence} {c : Cx} {s : AS} {a : Act} (hr : SR N base c s a) {ops : Array Oper} {o : Oper} {b : Bool} (h : awanted ops s.tm o = some b) : Region.wanted o (yielded ops a.tmps) = b := by
  unfold awanted at h
  unfold Region.wanted yielded
  cases hg : o.guard with
  | none => simp only [hg] at h; cases h; rfl
  | some jw =>
    obtain ⟨j, want⟩ := jw
    simp only [hg] at h ⊢
    cases hd : (ops[j]?).bind (·.dst) with
    | none => simp only [hd] at h; cases h; rfl
    | some d =>
      simp only [hd, Option.bind_some] at h ⊢
      have h1 := hr.tm d
      rw [Array.getD_eq_getD_getElem?] at h1
      cases ht : s.tm d with
      | v x =>
        rw [ht] at h1
        simp only [ht] at h
        cases hx : a.tmps[d]? with
        | none =>
          rw [hx] at h1
          simp only [Option.getD_none] at h1
          have hxu : x = undef := by generalize hu : undef = u at h1; cases h1; rfl
          subst hxu
          simp only [undef] at h
          cases h
          rfl
        | some y =>
          rw [hx] at h1
          simp only [Option.getD_some] at h1
          have hxu : x = y := by cases h1; rfl
          subst hxu
          cases x <;> simp only [Option.some.injEq] at h <;> subst h <;> rfl
      | _ => simp only [ht] at h; cases h

/-- how it goes on behind a call -/
def contW (K : AS → Prop) (E : AV → AS → Prop) (N : Nat) (s : AS) (d : Option Tmp) : AOut → AH → Prop
  | .ret r, h' => K (AS.put N { s with h := h' } d r)
  | .panic r, h' => E r { s with h := h' }

/-- is a slice without elements nil -/
def nilAsk (P : Program) (ev : Operand → AV) : Op → Bool
  | .binOp op t x y _ => (match op with | .eql | .neq => true | _ => false) && (match ev x, ev y with | .sl _ [] _, .v (.slice none 0 0) => true | _, _ => false) && (match P.underlying t with | some (.slice _) => true | _ => false)
  | _ => false

/-- a new slice without elements: it is to grow, or what is appended to it makes a row of its own -/
def RowW (N e n : Nat) (s : AS) (d : Option Tmp) (K : AS → Prop) : Prop :=
  K (AS.put N { s with h := s.h ++ [.grow e n 0] } d (.sl n [] (some s.h.length))) ∨ K (AS.put N { s with h := s.h ++ [.dead] } d (.sl n [] (some s.h.length)))

def OpW (P : Program) (N : Nat) (o : Oper) (s : AS) (K : AS → Prop) (E : AV → AS → Prop) : Prop :=
  match o.op with
  | .buildSlice t 0 ps =>
    match elemInfo P t, ps.toList with
    | some (e, n), [] => aBuildSlice P t 0 [] s.h = some (.sl n [] (some s.h.length), s.h ++ [.grow e n 0]) ∧ RowW N e n s o.dst K
    | _, _ => False
  | .call q =>
    match q.callee with
    | .value f => FunW P (s.ev f) (q.args.toList.map s.ev) s.h (contW K E N s o.dst)
    | _ => match aop P s.ev o.type s.h o.op with
      | some (r, h') => K (AS.put N { s with h := h' } o.dst r)
      | none => False
  | .panic x => match s.ev x with
    | .ifc t y => E (.ifc t y) s
    | _ => False
  | op => match aop P s.ev o.type s.h op with
    | some (r, h') => K (AS.put N { s with h := h' } o.dst r)
    | none => nilAsk P s.ev op = true ∧ ∀ b, K (AS.put N s o.dst (.v (.bool b)))

theorem nilAsk_sound {P : Program} {c : Cx} {ev : Operand → AV} {ρ : Operand → Value} (hev : ∀ x, Rel c (ev x) (ρ x)) {o : Oper} (h : nilAsk P ev o.op = true) : ∃ b, (execOp ρ o).run P c.w = .ok (.value (.bool b)) c.w := by
  cases ho : o.op with
  | binOp op t x y yt =>
    rw [ho] at h
    simp only [nilAsk, Bool.and_eq_true] at h
    obtain ⟨⟨h1, h2⟩, h3⟩ := h
    split at h2
    · rename_i s own e1 e2
      have hx := hev x
      have hy := hev y
      rw [e1] at hx
      rw [e2] at hy
      generalize hux : ρ x = u at hx
      generalize huy : ρ y = v at hy
      cases hy
      split at h3
      · rename_i e hu
        have heq : ∃ b, (Op.equal t u (.slice none 0 0)).run P c.w = .ok b c.w := by
          suffices h : ∀ d, ∃ b, (Op.equalIn (d + 1) t u (.slice none 0 0)).run P c.w = .ok b c.w from h 9999
          intro d
          cases hx with
          | slnil => exact ⟨true, by simp [Op.equalIn, underlying, hu]⟩
          | slzero => exact ⟨false, by simp [Op.equalIn, underlying, hu]⟩
          | sl => exact ⟨false, by simp [Op.equalIn, underlying, hu]⟩
        obtain ⟨b, hb⟩ := heq
        have hsl : ∃ a n k, u = .slice a n k := by cases hx <;> exact ⟨_, _, _, rfl⟩
        obtain ⟨a, n, k, rfl⟩ := hsl
        cases op <;> simp only [Bool.false_eq_true] at h1
        · exact ⟨b, by cases a <;> simp [execOp, ho, hux, huy, eqGuard, binOp, hb]⟩
        · exact ⟨!b, by cases a <;> simp [execOp, ho, hux, huy, eqGuard, binOp, hb]⟩
      · cases h3
    · cases h2
  | _ => rw [ho] at h; simp [nilAsk] at h

theorem aop_no_defer {P : Program} {ev : Operand → AV} {ty : TypeId} {h : AH} {q : Call} : aop P ev ty h (.defer q) = none := rfl

theorem opW_sound {P : Program} {N : Nat} {base : Nat × Fence} {o : Oper} {s : AS} {K : AS → Prop} {E : AV → AS → Prop} (H : OpW P N o s K E) {F : Fence} {n : Nat} {c : Cx} {a : Act} (hF : WF F) (hst : St c) (hr : SR N base c s a)
    {next : Act → World → Prop} {Qx : Exit → Act → World → Prop} (hK : ∀ s' c' a', K s' → Ev c c' → St c' → SR N base c' s' a' → next a' c'.w)
    (hE : ∀ r s' c' x, E r s' → Ev c c' → St c' → SR N base c' s' a → Rel c' r x → Qx (.panic [{ v := x, recovered := false }]) a c'.w) : o.wpIn F n P a c.w next Qx := by
  have hev : ∀ x, Rel c (s.ev x) (a.eval x) := hr.eval
  -- an operation of its own
  have plain : (∀ q, o.op ≠ .defer q) → ∀ {r h'}, aop P s.ev o.type s.h o.op = some (r, h') → K (AS.put N { s with h := h' } o.dst r) → o.wpIn F n P a c.w next Qx := by
    intro hd r h' ha hk
    rw [← hr.h] at ha
    obtain ⟨c', h1, h2, h3, h4⟩ := aop_sound hst hev ha
    refine ⟨fun f _ => hF.fn f, ?_⟩
    rw [Oper.semAt_eq _ _ _ hd]
    subst h3
    rcases h4 with ⟨x, hrun, hx⟩ | ⟨hrun, hx⟩
    · rw [hrun]; exact hK _ c' _ hk h1 h2 (hr.put hst h1 o.dst hx)
    · rw [hrun]; exact hK _ c' _ hk h1 h2 (hr.put hst h1 o.dst hx)
  unfold OpW at H
  split at H
  · rename_i t ps hop
    split at H
    · rename_i e n he hps
      have hps' : ps = #[] := by apply Array.ext'; simpa using hps
      subst hps'
      obtain ⟨ha, hk | hk⟩ := H
      · exact plain (fun q => by rw [hop]; intro h; cases h) (r := .sl n [] (some s.h.length)) (h' := s.h ++ [.grow e n 0]) (by rw [hop]; simpa [aop] using ha) hk
      · refine ⟨fun f _ => hF.fn f, ?_⟩
        rw [Oper.semAt_eq _ _ _ (fun q => by rw [hop]; intro h; cases h)]
        obtain ⟨hu, hsz⟩ := elemInfo_run he
        have hrun : (execOp a.eval o).run P c.w = .ok (.value (.slice (some ⟨c.w.heap.size, 0, none⟩) 0 0)) (c.w.alloc (.cells #[] e)) := by
          simp [execOp, hop, run_buildSlice_zero hu hsz c.w]
        rw [hrun]
        have hg := Grows.alloc c.w (.cells #[] e)
        have ho : ∀ B, (none : Option Nat) = some B → c.w.heap.size ≤ B := fun B h => by cases h
        have hev' := Ev.add hst hg .dead none ho
        have hst' : St (c.add (c.w.alloc (.cells #[] e)) .dead none) := St.add hst hg _ _ ho trivial
        refine hK _ (c.add (c.w.alloc (.cells #[] e)) .dead none) _ (by rw [← hr.h] at hk; exact hk) hev' hst' (hr.put hst hev' o.dst ?_)
        refine .slzero _ _ _ fun b hb => ?_
        cases hb
        refine ⟨by simp [Cx.add], fun e2 s2 n2 hg2 => ?_⟩
        simp [Cx.add] at hg2
    · exact H.elim
  · rename_i q hop
    split at H
    · rename_i f hcal
      refine ⟨fun f _ => hF.fn f, ?_⟩
      rw [Oper.semAt_eq _ _ _ (fun q => by rw [hop]; intro h; cases h)]
      have hrun : (execOp a.eval o).run P c.w = ((do let d ← Deferred.ofValue (a.eval f) (q.args.map a.eval); invoke d.target d.args : Sem Next)).run P c.w := by
        simp [execOp, hop, resolve, hcal]
      rw [hrun]
      refine H F n c _ _ hF hst hr.h (hev f) (relL_map hev q.args) o a next Qx ?_ ?_
      · intro r c' x hk h1 h2 hx
        exact hK _ c' _ hk h1 h2 (hr.put hst h1 o.dst hx)
      · intro r c' x he h1 h2 hx
        exact hE r _ c' x he h1 h2 ⟨rfl, hr.size, Nat.le_trans hr.above h1.size, hr.defers.ev h1, RoundOk.ev h1 hr.round, fun t => (hr.tm t).ev hst h1⟩ hx
    · split at H
      · rename_i r h' ha
        exact plain (fun q => by rw [hop]; intro h; cases h) ha H
      · exact H.elim
  · rename_i x hop
    split at H
    · rename_i t y hx
      have h1 := hev x
      rw [hx] at h1
      generalize hu : a.eval x = u at h1
      cases h1 with
      | ifc t y u h2 =>
        refine ⟨fun f _ => hF.fn f, ?_⟩
        rw [Oper.semAt_eq _ _ _ (fun q => by rw [hop]; intro h; cases h)]
        have hrun : (execOp a.eval o).run P c.w = .halt (.panic (.iface t u)) c.w := by
          simp [execOp, hop, Instr.panic, hu]
        rw [hrun]
        exact hE _ s c _ H (Ev.refl c) hst hr (.ifc t y u h2)
    · exact H.elim
  · rename_i op hnb hnc hnp
    split at H
    · rename_i r h' ha
      refine plain (fun q hq => ?_) ha H
      rw [hq] at ha
      simp [aop] at ha
    · obtain ⟨hq, hk⟩ := H
      obtain ⟨b, hrun⟩ := nilAsk_sound hev hq
      refine ⟨fun f _ => hF.fn f, ?_⟩
      rw [Oper.semAt_eq _ _ _ (fun q hq' => by rw [hq'] at hq; simp [nilAsk] at hq), hrun]
      have hp := hr.put hst (Ev.refl c) o.dst (.v (.bool b))
      rw [hr.h] at hp
      exact hK _ c _ (hk b) (Ev.refl c) hst hp

def OpsW (P : Program) (N : Nat) (ops : Array Oper) : List Oper → (AS → Prop) → (AV → AS → Prop) → AS → Prop
  | [], Q, E, s => Q s
  | o :: rest, Q, E, s =>
    match awanted ops s.tm o with
    | some true => OpW P N o s (OpsW P N ops rest Q E) E
    | some false => OpsW P N ops rest Q E (AS.put N s o.dst (.v undef))
    | none => False

theorem opsW_sound {P : Program} {N : Nat} {base : Nat × Fence} {ops : Array Oper} {Q : AS → Prop} {E : AV → AS → Prop} {F : Fence} {n : Nat} (hF : WF F) {Qx : Exit → Act → World → Prop} : ∀ (l : List Oper) (k : Nat) (s : AS) (c : Cx) (a : Act), (∀ j, l[j]? = ops[k + j]?) →
    OpsW P N ops l Q E s → St c → SR N base c s a → (∀ s' c' a', Q s' → Ev c c' → St c' → SR N base c' s' a' → Qx .normal a' c'.w) →
    (∀ r s' c' a' x, E r s' → Ev c c' → St c' → SR N base c' s' a' → Rel c' r x → Qx (.panic [{ v := x, recovered := false }]) a' c'.w) → wpOpsIn F n P ops Qx (List.range' k l.length) a c.w
  | [], k, s, c, a, hl, H, hst, hr, hQ, hE => by
    simp only [List.length_nil, List.range'_zero, wpOpsIn]
    exact hQ s c a H (Ev.refl c) hst hr
  | o :: l, k, s, c, a, hl, H, hst, hr, hQ, hE => by
    have h0 : ops[k]? = some o := by simpa using (hl 0).symm
    have hl' : ∀ j, l[j]? = ops[k + 1 + j]? := fun j => by have := hl (j + 1); simpa [Nat.add_assoc, Nat.add_comm 1 j] using this
    simp only [List.length_cons, List.range'_succ, wpOpsIn, h0]
    simp only [OpsW] at H
    split at H
    · rename_i hw
      rw [awanted_sound hr hw]
      simp only [if_true]
      refine opW_sound H hF hst hr ?_ ?_
      · intro s' c' a' hK h1 h2 h3
        exact opsW_sound hF l (k + 1) s' c' a' hl' hK h2 h3 (fun s2 c2 a2 q e2 t2 r2 => hQ s2 c2 a2 q (Ev.trans hst h1 e2) t2 r2) (fun r s2 c2 a2 x q e2 t2 r2 => hE r s2 c2 a2 x q (Ev.trans hst h1 e2) t2 r2)
      · intro r s' c' x he h1 h2 h3 hx
        exact hE r s' c' a x he h1 h2 h3 hx
    · rename_i hw
      rw [awanted_sound hr hw]
      simp only [Bool.false_eq_true, if_false]
      refine ⟨fun f _ => hF.fn f, ?_⟩
      have hr' := hr.put hst (Ev.refl c) o.dst (.v undef)
      rw [hr.h] at hr'
      exact opsW_sound hF l (k + 1) _ c _ hl' H hst hr' hQ hE
    · exact H.elim

theorem codeW_region {P : Program} {N : Nat} {Q : AExit → AS → Prop} {s : AS} {id : Nat} {ops : Array Oper} (H : OpsW P N ops ops.toList (fun s' => Q .normal s') (fun r s' => Q (.panic r) s') s) : CodeW P N (.region id ops false) Q s := by
  intro F n base c a hF hst hr R hR
  refine wpIn_region ?_
  rw [List.range_eq_range', ← Array.length_toList]
  refine opsW_sound hF ops.toList 0 s c a (by simp) H hst hr ?_ ?_
  · intro s' c' a' hQ h1 h2 h3
    exact hR _ s' c' a' _ hQ h1 h2 h3 rfl
  · intro r s' c' a' x hQ h1 h2 h3 hx
    exact hR _ s' c' a' _ hQ h1 h2 h3 ⟨x, rfl, hx⟩

end Go.Proofs.Ytplnbmldkgcedaa.Ab
