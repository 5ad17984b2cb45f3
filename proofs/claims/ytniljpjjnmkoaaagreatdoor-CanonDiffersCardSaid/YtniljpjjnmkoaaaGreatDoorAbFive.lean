/-
  An abstract program logic, contracts of functions, and laws of terms and rules (part 5).
-/
import Derived.Test.YtniljpjjnmkoaaaGreatDoorAbThree
import Derived.RecoverIn
import Derived.Test.YtniljpjjnmkoaaaGreatDoorAbFour
import Derived.Test.YtniljpjjnmkoaaaGreatDoorAbTwo
set_option linter.unusedVariables false
set_option linter.unusedSimpArgs false
set_option maxHeartbeats 4000000
namespace Go.Proofs.YtniljpjjnmkoaaaGreatDoor.Ab
abbrev DA := FuncId × List AV
def RelD (c : Cx) (d : DA) (x : Deferred) : Prop := ∃ caps, x.target = .fn (.func d.1) caps ∧ RelL c d.2 (x.args ++ caps)
theorem RelD.ev {c c' : Cx} (hs : St c) (h : Ev c c') {d : DA} {x : Deferred} (hr : RelD c d x) : RelD c' d x :=
 let ⟨caps, e, r⟩ := hr; ⟨caps, e, r.ev hs h⟩
inductive Ent where
 | mark (D : Nat)
 | call (d : DA) (x : Deferred)
def Ent.dfr : Ent → Deferred
 | .mark D => QgO D
 | .call _ x => x
def Ent.da : Ent → Option DA
 | .mark _ => none
 | .call d _ => some d
def Ent.mk? : Ent → Option Nat
 | .mark D => some D
 | .call _ _ => none
def Ent.ok (c : Cx) (lo : Nat) : Ent → Prop
 | .mark D => lo ≤ D ∧ c.w.heap[D]? = some (.deferred (some [])) ∧ ¬ c.owns D
 | .call d x => RelD c d x
theorem Ent.ok.ev {c c' : Cx} (hs : St c) (h : Ev c c') {lo : Nat} {e : Ent} (hk : e.ok c lo) : e.ok c' lo := by
 cases e with
 | mark D =>
  obtain ⟨h1, h2, h3⟩ := hk
  have hlt := (Array.getElem?_eq_some_iff.1 h2).1
  exact ⟨h1, (h.frame D hlt h3).trans h2, fun ho => h3 (h.owns hlt ho)⟩
 | call d x => exact RelD.ev hs h hk
def DefsOk (c : Cx) (lo : Nat) (ds : List DA) (l : List Deferred) : Prop :=
 ∃ es : List Ent, l = es.map Ent.dfr ∧ ds = es.filterMap Ent.da ∧ (es.filterMap Ent.mk?).Nodup ∧ ∀ e ∈ es, e.ok c lo
theorem DefsOk.ev {c c' : Cx} (hs : St c) (h : Ev c c') {lo : Nat} {ds : List DA} {l : List Deferred} (hd : DefsOk c lo ds l) : DefsOk c' lo ds l :=
 let ⟨es, h1, h2, h3, h4⟩ := hd; ⟨es, h1, h2, h3, fun e he => (h4 e he).ev hs h⟩
theorem QkV (Ds : List Nat) : (Ds.map Ent.mark).map Ent.dfr = Ds.map QgO := by rw [List.map_map]; rfl
theorem Qno (Ds : List Nat) : (Ds.map Ent.mark).filterMap Ent.da = [] := by
 induction Ds with
 | nil => rfl
 | cons D Ds ih => rw [List.map_cons, List.filterMap_cons, ih]; rfl
theorem Qna (Ds : List Nat) : (Ds.map Ent.mark).filterMap Ent.mk? = Ds := by
 induction Ds with
 | nil => rfl
 | cons D Ds ih => rw [List.map_cons, List.filterMap_cons, ih]; rfl
theorem DefsOk.marks {c c' : Cx} (hs : St c) (h : Ev c c') {lo : Nat} {ds : List DA} {l l' : List Deferred} (hlo : lo ≤ c.w.heap.size) (hd : DefsOk c lo ds l) (hd' : DefOk c' ⟨c.w.heap.size, l⟩ l') : DefsOk c' lo ds l' := by
 obtain ⟨Ds, f1, f2, f3⟩ := hd'
 obtain ⟨es, e1, e2, e3, e4⟩ := hd
 refine ⟨Ds.map Ent.mark ++ es, ?_, ?_, ?_, ?_⟩
 ·rw [f1, List.map_append, QkV, e1]
 ·rw [List.filterMap_append, Qno, List.nil_append, e2]
 ·rw [List.filterMap_append, Qna, List.nodup_append]
  refine ⟨f2, e3, fun a ha b hb hab => ?_⟩
  subst hab
  have g1 := (f3 a ha).1
  simp only [List.mem_filterMap] at hb
  obtain ⟨e, he, hm⟩ := hb
  cases e with
  | call d x => cases hm
  | mark D =>
   simp only [Ent.mk?, Qqy] at hm
   subst hm
   have := (Array.getElem?_eq_some_iff.1 (e4 _ he).2.1).1
   simp only at g1
   omega
 ·intro e he
  rcases List.mem_append.1 he with he | he
  ·obtain ⟨D, hD, rfl⟩ := List.mem_map.1 he
   obtain ⟨g1, g2, g3⟩ := f3 D hD
   exact ⟨Nat.le_trans hlo g1, g2, g3⟩
  ·exact (e4 e he).ev hs h
structure SRd (N lo : Nat) (c : Cx) (s : AS) (a : Act) (ds : List DA) : Prop where
 h : c.h = s.h
 size : a.tmps.size = N
 above : lo ≤ c.w.heap.size
 defs : DefsOk c lo ds a.defers
 tm : ∀ t, Rel c (s.tm t) (a.tmps.getD t undef)
theorem SRd.sr {N lo : Nat} {c : Cx} {s : AS} {a : Act} {ds : List DA} (h : SRd N lo c s a ds) {F : Fence} (hro : F.round = none) : SR N (⟨c.w.heap.size, a.defers⟩, F) c s a :=
 ⟨h.h, h.size, Nat.le_refl _, ⟨[], rfl, List.nodup_nil, fun D hD => by cases hD⟩, fun l hl => (by rw [hro] at hl; cases hl), h.tm⟩
theorem SRd.Qp7 {N lo : Nat} {c c' : Cx} {s s' : AS} {a a' : Act} {ds : List DA} {F : Fence} (hs : St c) (h : SRd N lo c s a ds) (hev : Ev c c') (hr : SR N (⟨c.w.heap.size, a.defers⟩, F) c' s' a') : SRd N lo c' s' a' ds :=
 ⟨hr.h, hr.size, Nat.le_trans h.above hev.size, h.defs.marks hs hev h.above hr.defers, hr.tm⟩
def DefW (P : Program) (N : Nat) (code : Code) (Q : AExit → AS → List DA → Prop) (s : AS) (ds : List DA) : Prop :=
 ∀ (F : Fence) (n lo : Nat) (c : Cx) (a : Act), WF F → F.round = none → St c → SRd N lo c s a ds →
  ∀ R : Exit → Act → World → Prop, (∀ e s' ds' c' a' e', Q e s' ds' → Ev c c' → St c' → SRd N lo c' s' a' ds' → ExC c' e e' → R e' a' c'.w) → code.wpIn F n P R a c.w
section rules
variable {P : Program} {N : Nat} {Q : AExit → AS → List DA → Prop} {s : AS} {ds : List DA}
theorem Qbg {code : Code} (H : XC P N code (fun e s' => Q e s' ds) s) : DefW P N code Q s ds := by
 intro F n lo c a hF hro hst hr R hR
 refine H F n ⟨c.w.heap.size, a.defers⟩ c a hF hst (hr.sr hro) R fun e s' c' a' e' hQ hev hst' hsr hex => ?_
 exact hR e s' ds c' a' e' hQ hev hst' (hr.Qp7 hst hev hsr) hex
def AExit.Qqr (K : AS → List DA → Prop) (Q : AExit → AS → List DA → Prop) : AExit → AS → List DA → Prop
 | .normal, s, ds => K s ds
 | e, s, ds => Q e s ds
theorem Qfg {x y : Code} (h : DefW P N x (AExit.Qqr (fun s ds => DefW P N y Q s ds) Q) s ds) : DefW P N (.seq x y) Q s ds := by
 intro F n lo c a hF hro hs hr R hR
 refine wpIn_seq (h F n lo c a hF hro hs hr _ ?_)
 intro e s' ds' c' a' e' hQ hev hst hsr hex
 cases e with
 | normal =>
  cases hex
  exact hQ F n lo c' a' hF hro hst hsr R fun e s2 ds2 c2 a2 e2 hQ2 hev2 hst2 hsr2 hex2 => hR e s2 ds2 c2 a2 e2 hQ2 (Ev.trans hs hev hev2) hst2 hsr2 hex2
 | exit id => cases hex; exact hR _ s' ds' c' a' _ hQ hev hst hsr rfl
 | ret => cases hex; exact hR _ s' ds' c' a' _ hQ hev hst hsr rfl
 | panic av => obtain ⟨x, rfl, hx⟩ := hex; exact hR _ s' ds' c' a' _ hQ hev hst hsr ⟨x, rfl, hx⟩
theorem QlW {o : Operand} {x y : Code} {t : Bool} (ho : s.ev o = .v (.bool t)) (h : DefW P N (if t then x else y) Q s ds) : DefW P N (.cond o x y) Q s ds := by
 intro F n lo c a hF hro hs hr R hR
 have he := (hr.sr hro).eval o
 rw [ho] at he
 have hx : a.eval o = .bool t := by
  generalize a.eval o = u at he
  cases he; rfl
 exact wpIn_cond hx (h F n lo c a hF hro hs hr R hR)
theorem QhZ {id : Nat} {ops : Array Oper} (i : Nat) {o : Oper} {cl : Call} {f : Operand} (ho : ops.toList[i]? = some o) (hop : o.op = .defer cl) (hcl : cl.callee = .value f)
  (H : OpsW P N ops (ops.toList.take i) (fun s1 => Qh ops s1.tm o = some true ∧ ∃ g first cap, s1.ev f = .fn (.func g) first cap ∧
   OpsW P N ops (ops.toList.drop (i + 1)) (fun s2 => Q .normal s2 ((g, first ++ cl.args.toList.map s1.ev ++ cap) :: ds)) (fun r s2 => Q (.panic r) s2 ((g, first ++ cl.args.toList.map s1.ev ++ cap) :: ds)) (AS.put N s1 o.dst (.v undef)))
   (fun r s1 => Q (.panic r) s1 ds) s) : DefW P N (.region id ops false) Q s ds := by
 intro F n lo c a hF hro hst hr R hR
 refine wpIn_region ?_
 have hlt := QA ho
 have hi : (ops.toList.take i).length = i := by rw [List.length_take]; omega
 have hrange : List.range ops.size = List.range' 0 (ops.toList.take i).length ++ (i :: (List.range' (i + 1) (ops.toList.drop (i + 1)).length ++ [])) := by
  rw [hi, List.append_nil, List.length_drop, List.range_eq_range', ← Array.length_toList]
  have : ops.toList.length = i + (1 + (ops.toList.length - (i + 1))) := by omega
  conv => lhs; rw [this]
  rw [← List.range'_append_1, Nat.zero_add, ← List.range'_append_1]
  rfl
 have hget : ∀ j, (ops.toList.drop (i + 1))[j]? = ops[i + 1 + j]? := fun j => by rw [List.getElem?_drop]; simp
 rw [hrange]
 refine QfV hF (ops.toList.take i) 0 s c a (fun j hj => by rw [List.getElem?_take, if_pos (by omega)]; simp) H hst (hr.sr hro) ?_ ?_
 ·intro s1 c1 a1 h1 h2 h3 h4
  have h0 : ops[i]? = some o := by rw [← ho]; simp
  obtain ⟨hw, g, first, cap, hf, hpost⟩ := h1
  simp only [wpOpsIn, h0]
  rw [XB h4 hw]
  simp only [if_true]
  have hr1 := hr.Qp7 hst h2 h4
  have hfv := h4.eval f
  rw [hf] at hfv
  obtain ⟨vs, ws, hae, hv1, hv2⟩ : ∃ vs ws, a1.eval f = .func (.func g) vs ws ∧ RelL c1 first vs ∧ RelL c1 cap ws := by
   generalize a1.eval f = u at hfv
   cases hfv with
   | fn _ _ _ vs ws e1 e2 g1 g2 => exact ⟨vs, ws, rfl, ⟨e1, g1⟩, ⟨e2, g2⟩⟩
  have hargs : RelL c1 (cl.args.toList.map s1.ev) (cl.args.map a1.eval) := by
   refine ⟨by simp, fun j x u hx hu => ?_⟩
   rw [List.getElem?_map] at hx
   rw [Array.getElem?_map] at hu
   cases hj : cl.args[j]? with
   | none => simp [hj] at hu
   | some q =>
    simp only [hj, Qqu, Qqy] at hu
    simp only [Array.getElem?_toList, hj, Qqu, Qqy] at hx
    subst hx; subst hu
    exact h4.eval q
  have hD : RelD c1 (g, first ++ cl.args.toList.map s1.ev ++ cap) ⟨.fn (.func g) ws, vs ++ cl.args.map a1.eval⟩ := ⟨ws, rfl, RelL.append (RelL.append hv1 hargs) hv2⟩
  have hrun : (execOp a1.eval o).run P c1.w = .ok (.defer ⟨.fn (.func g) ws, vs ++ cl.args.map a1.eval⟩) c1.w := by
   simp only [execOp, hop, resolve, hcl, hae, Deferred.ofValue, Sem.run_bind, Sem.run_pure, Result.andThen_ok]
  refine ⟨fun f _ => hF.fn f, ?_⟩
  rw [hro, Oper.semAt_none, hrun, Oper.uponIn_defer]
  have hput := h4.put h3 (Ev.refl c1) o.dst (.v undef)
  rw [h4.h] at hput
  have hd2 : DefsOk c1 lo ((g, first ++ cl.args.toList.map s1.ev ++ cap) :: ds) (⟨.fn (.func g) ws, vs ++ cl.args.map a1.eval⟩ :: a1.defers) := by
   obtain ⟨es, e1, e2, e3, e4⟩ := hr1.defs
   refine ⟨.call _ ⟨.fn (.func g) ws, vs ++ cl.args.map a1.eval⟩ :: es, by rw [e1]; rfl, by rw [e2]; rfl, e3, fun e he => ?_⟩
   rcases List.mem_cons.1 he with rfl | he
   ·exact hD
   ·exact e4 e he
  have hdf : ((({ a1 with defers := ⟨.fn (.func g) ws, vs ++ cl.args.map a1.eval⟩ :: a1.defers } : Act).put o.dst undef)).defers = ⟨.fn (.func g) ws, vs ++ cl.args.map a1.eval⟩ :: a1.defers := by
   cases o.dst <;> rfl
  have htm : ((({ a1 with defers := ⟨.fn (.func g) ws, vs ++ cl.args.map a1.eval⟩ :: a1.defers } : Act).put o.dst undef)).tmps = (a1.put o.dst undef).tmps := by
   cases o.dst <;> rfl
  have hr2 : SRd N lo c1 (AS.put N s1 o.dst (.v undef)) (({ a1 with defers := ⟨.fn (.func g) ws, vs ++ cl.args.map a1.eval⟩ :: a1.defers } : Act).put o.dst undef) ((g, first ++ cl.args.toList.map s1.ev ++ cap) :: ds) :=
   ⟨hput.h, by rw [htm]; exact hput.size, hr1.above, by rw [hdf]; exact hd2, fun t => by rw [htm]; exact hput.tm t⟩
  refine QfV hF _ (i + 1) _ c1 _ (fun j _ => hget j) hpost h3 (hr2.sr hro) ?_ ?_
  ·intro s' c' a' hQ k1 k2 k3
   simp only [wpOpsIn]
   exact hR _ s' _ c' a' _ hQ (Ev.trans hst h2 k1) k2 (hr2.Qp7 h3 k1 k3) rfl
  ·intro r s' c' a' x hQ k1 k2 k3 hx
   exact hR _ s' _ c' a' _ hQ (Ev.trans hst h2 k1) k2 (hr2.Qp7 h3 k1 k3) ⟨x, rfl, hx⟩
 ·intro r s' c' a' x hQ h1 h2 h3 hx
  exact hR _ s' ds c' a' _ hQ h1 h2 (hr.Qp7 hst h1 h3) ⟨x, rfl, hx⟩
end rules
inductive AMode where
 | ret
 | pan (v : AV) (recovered : Bool)
def MdC (c : Cx) : AMode → FrameMode → Prop
 | .ret, u => u = .returning
 | .pan v b, u => ∃ x, u = .panicking [{ v := x, recovered := b }] ∧ Rel c v x
theorem MdC.ev {c c' : Cx} (hs : St c) (h : Ev c c') {m : AMode} {u : FrameMode} (hm : MdC c m u) : MdC c' m u := by
 cases m with
 | ret => exact hm
 | pan v b => obtain ⟨x, e, r⟩ := hm; exact ⟨x, e, r.ev hs h⟩
theorem MdC.run {c : Cx} {m : AMode} {u : FrameMode} (hm : MdC c m u) : u ≠ .run := by
 cases m with
 | ret => rw [show u = .returning from hm]; simp
 | pan v b => obtain ⟨x, e, r⟩ := hm; rw [e]; simp
def AMode.settle : AMode → AMode
 | .pan _ true => .ret
 | m => m
theorem MdC.settle {c : Cx} {m : AMode} {u : FrameMode} (hm : MdC c m u) : MdC c m.settle (Go.settle u) := by
 cases m with
 | ret => rw [show u = .returning from hm]; rfl
 | pan v b =>
  obtain ⟨x, rfl, r⟩ := hm
  cases b with
  | true => rfl
  | false => exact ⟨x, rfl, r⟩
def Qby (P : Program) (f : FuncId) (args : List AV) (h : AH) (m : AMode) (Q : AMode → AH → Prop) : Prop :=
 (∀ vals w, (callFunc f vals).run P w = .ok (.enter f vals) w) ∧
 ∀ (F : Fence) (n : Nat) (c : Cx) (vals : Array Value) (u : FrameMode), WF F → F.round = none → St c → c.h = h → RelL c args vals → MdC c m u →
  CallsDIn F n P f vals u c.w fun e u' w' => ∃ x m' c', e = .returned x ∧ Q m' c'.h ∧ Ev c c' ∧ St c' ∧ c'.w = w' ∧ MdC c' m' u'
def Qia (P : Program) (rs : List ResultVar) (h : AH) (Q : AOut → AH → Prop) : List DA → AMode → AS → Prop
 | [], .ret, s => QE P rs h Q .ret s
 | [], .pan v _, s => QE P rs h Q (.panic v) s
 | d :: ds, m, s => Qby P d.1 d.2 s.h m fun m' h' => Qia P rs h Q ds m'.settle ⟨s.tm, h'⟩
structure Out (N : Nat) (c : Cx) (s : AS) (tmps : Array Value) : Prop where
 h : c.h = s.h
 size : tmps.size = N
 tm : ∀ t, Rel c (s.tm t) (tmps.getD t undef)
theorem QaK {P : Program} {F : Fence} (hF : WF F) (hro : F.round = none) {n : Nat} {fn : Func} {tmps : Array Value} {rs : List ResultVar} (hrs : fn.results.toList = rs) {Q : AOut → AH → Prop} {c0 : Cx} (hs0 : St c0) :
  ∀ (es : List Ent) (c : Cx) (s : AS) (m : AMode) (u : FrameMode), Ev c0 c → St c → Out fn.ntmps c s tmps → (es.filterMap Ent.mk?).Nodup → (∀ e ∈ es, e.ok c c0.w.heap.size) → MdC c m u → (∀ v, m ≠ .pan v true) →
   Qia P rs c0.h Q (es.filterMap Ent.da) m s →
   LeavesInM F n P fn tmps (fun e w' => ∃ o c', Q o c'.h ∧ Ev c0 c' ∧ St c' ∧ c'.w = w' ∧ EndC c' o e) (es.map Ent.dfr) u c.w
 | [], c, s, m, u, hev, hst, hout, _, _, hm, hnr, H => by
  have hsr : SR fn.ntmps (⟨0, []⟩, F) c s { tmps := tmps, defers := [] } := ⟨hout.h, hout.size, Nat.zero_le _, ⟨[], rfl, List.nodup_nil, fun D h => by cases h⟩, fun l hl => (by rw [hro] at hl; cases hl), hout.tm⟩
  cases m with
  | ret =>
   rw [show u = .returning from hm]
   obtain ⟨r, hres, hl⟩ := (show QE P rs c0.h Q .ret s from H)
   subst hrs
   obtain ⟨x, hrun, hx⟩ := ZI hst hsr hres
   rw [← hout.h] at hl
   obtain ⟨c3, r', h1, h2, h3, h4, h5⟩ := Yg hs0 hst hev hx hl
   exact ⟨x, hrun, .ret r', c3, h1, h2, h3, h4, x, rfl, h5⟩
  | pan v b =>
   obtain ⟨x, rfl, hx⟩ := hm
   have hl : Leaves c0.h s.h v fun r h' => Q (.panic r) h' := H
   rw [← hout.h] at hl
   obtain ⟨c3, r', h1, h2, h3, h4, h5⟩ := Yg hs0 hst hev hx hl
   cases b with
   | true => exact absurd rfl (hnr v)
   | false => exact ⟨.panic r', c3, h1, h2, h3, h4, x, rfl, h5⟩
 | .mark D :: es, c, s, m, u, hev, hst, hout, hnd, hok, hm, hnr, H => by
  obtain ⟨hD1, hD2, hD3⟩ := hok (.mark D) (by simp)
  simp only [QqH, LeavesInM]
  refine ⟨hm.run, .inl ⟨D, _, rfl, Yr hD2, ?_⟩⟩
  have hnd' := List.nodup_cons.1 (show (D :: es.filterMap Ent.mk?).Nodup from hnd)
  have hold : ∀ k, k ≠ D → ({ c.w with heap := c.w.heap.setIfInBounds D (.deferred none) } : World).heap[k]? = c.w.heap[k]? := fun k hk => by
   show (c.w.heap.setIfInBounds D _)[k]? = _
   rw [Array.getElem?_setIfInBounds_ne (fun e => hk e.symm)]
  have hsz : ({ c.w with heap := c.w.heap.setIfInBounds D (.deferred none) } : World).heap.size = c.w.heap.size := by simp
  have hidle : ∀ k, ({ c.w with heap := c.w.heap.setIfInBounds D (.deferred none) } : World).heap[k]? = c.w.heap[k]? ∨ (c0.w.heap.size ≤ k ∧ ¬ c.owns k ∧ ∃ o, c.w.heap[k]? = some (.deferred o)) := fun k => by
   by_cases hk : k = D
   ·subst hk; exact .inr ⟨hD1, hD3, _, hD2⟩
   ·exact .inl (hold k hk)
  have hcells : ∀ (k : Nat) cs t fr, c.w.heap[k]? = some (Obj.cells cs t fr) → ({ c.w with heap := c.w.heap.setIfInBounds D (.deferred none) } : World).heap[k]? = c.w.heap[k]? := fun k cs t fr hk => by
   rcases hidle k with h | ⟨_, _, o, h⟩
   ·exact h
   ·rw [hk] at h; cases h
  have hst2 := hst.idle hsz fun k o hk => by
   rcases hidle k with h | ⟨_, _, d, h⟩
   ·exact .inl (h.trans hk)
   ·rw [hk] at h; cases h; exact .inr ⟨d, rfl⟩
  have hrel : ∀ a x, Rel c a x → Rel (c.to { c.w with heap := c.w.heap.setIfInBounds D (.deferred none) }) a x := fun a x hax => hax.idle hsz hcells
  refine QaK hF hro hrs hs0 es (c.to _) s m u (Ev.idle hst hev rfl rfl rfl hsz hidle) hst2 ⟨hout.h, hout.size, fun t => hrel _ _ (hout.tm t)⟩ hnd'.2 (fun e he => ?_) ?_ hnr H
  ·have := hok e (by simp [he])
   cases e with
   | mark D' =>
    obtain ⟨g1, g2, g3⟩ := this
    have hne : D' ≠ D := fun h => hnd'.1 (by subst h; exact List.mem_filterMap.2 ⟨_, he, rfl⟩)
    exact ⟨g1, (hold D' hne).trans g2, g3⟩
   | call d x =>
    obtain ⟨caps, e, r⟩ := this
    exact ⟨caps, e, r.1, fun j a u h1 h2 => hrel _ _ (r.2 j a u h1 h2)⟩
  ·cases m with
   | ret => exact hm
   | pan v b => obtain ⟨x, e, r⟩ := hm; exact ⟨x, e, hrel _ _ r⟩
 | .call d x :: es, c, s, m, u, hev, hst, hout, hnd, hok, hm, hnr, H => by
  obtain ⟨caps, htar, hargs⟩ := hok (.call d x) (by simp)
  obtain ⟨hcall, hbody⟩ := (show Qby P d.1 d.2 s.h m fun m' h' => Qia P rs c0.h Q (es.filterMap Ent.da) m'.settle ⟨s.tm, h'⟩ from H)
  simp only [QqH, LeavesInM, Ent.dfr]
  refine ⟨hm.run, .inr ⟨fun hd => by simp [hF.depth] at hd, _, _, d.1, x.args ++ caps, htar, by rw [htar]; simp only [invoke, hcall], fun _ _ => hF.fn _, ?_⟩⟩
  refine (hbody F (n - 1) c _ u hF hro hst hout.h hargs hm).mono ?_
  rintro e u' w' ⟨y, m', c', rfl, hQ, hev', hst', rfl, hm'⟩
  refine QaK hF hro hrs hs0 es c' ⟨s.tm, c'.h⟩ m'.settle (Go.settle u') (Ev.trans hs0 hev hev') hst' ⟨rfl, hout.size, fun t => (hout.tm t).ev hst hev'⟩ hnd (fun e he => (hok e (by simp [he])).ev hst hev') hm'.settle (fun v h => ?_) hQ
  cases m' with
  | ret => cases h
  | pan v' b => cases b <;> cases h
def Qoo (P : Program) (rs : List ResultVar) (h : AH) (Q : AOut → AH → Prop) : AExit → AS → List DA → Prop
 | .normal, s, ds | .ret, s, ds => Qia P rs h Q ds .ret s
 | .panic v, s, ds => Qia P rs h Q ds (.pan v false) s
 | .exit _, _, _ => False
theorem Qd4 {P : Program} {f : FuncId} {fn : Func} {code : Code} {args : List AV} {h : AH} {Q : AOut → AH → Prop} (hf : P.funcs[f]? = some fn) (hb : fn.body = some code)
  (hcall : ∀ vals w, (callFunc f vals).run P w = .ok (.enter f vals) w) {N : Nat} (hN : fn.ntmps = N) {rs : List ResultVar} (hrs : fn.results.toList = rs) (hn : args.length ≤ N) (H : DefW P N code (Qoo P rs h Q) ⟨Qy args, h⟩ []) : Q4 P f args h Q := by
 subst hN
 refine ⟨hcall, fun F n c vals hF hs hh hvals => ZL ?_⟩
 subst hh
 refine callsIn_of_wp_marks hf hb (hF.plain.fn f) ?_
 have hsr : SRd fn.ntmps c.w.heap.size c ⟨Qy args, c.h⟩ { tmps := vals ++ Array.replicate (fn.ntmps - vals.size) undef, defers := [] } [] := by
  refine ⟨rfl, by have := hvals.1; simp; omega, Nat.le_refl _, ⟨[], rfl, rfl, List.nodup_nil, fun e h => by cases h⟩, fun t => ?_⟩
  simp only [Qy]
  rw [Array.getD_eq_getD_getElem?, Array.getElem?_append, List.getD_eq_getElem?_getD]
  have hsz := hvals.1
  by_cases ht : t < vals.size
  ·rw [if_pos ht]
   obtain ⟨u, hu⟩ : ∃ u, vals[t]? = some u := ⟨_, Array.getElem?_eq_getElem ht⟩
   obtain ⟨a, ha⟩ : ∃ a, args[t]? = some a := ⟨_, List.getElem?_eq_getElem (by omega)⟩
   rw [hu, ha]
   exact hvals.2 t a u ha hu
  ·rw [if_neg ht, List.getElem?_eq_none (by omega), Array.getElem?_replicate]
   split
   ·exact .v _
   ·exact .v _
 refine H F.plain n c.w.heap.size c _ hF.plain rfl hs hsr _ ?_
 intro e s' ds' c' a' e' hQ hev hst hr hex
 obtain ⟨es, e1, e2, e3, e4⟩ := hr.defs
 subst e2
 have hout : Out fn.ntmps c' s' a'.tmps := ⟨hr.h, hr.size, hr.tm⟩
 have key := fun (m : AMode) (u : FrameMode) (hm : MdC c' m u) (hnr : ∀ v, m ≠ .pan v true) H => e1 ▸ QaK (P := P) hF.plain rfl (n := n) (fn := fn) (tmps := a'.tmps) hrs (Q := Q) hs es c' s' m u hev hst hout e3 e4 hm hnr H
 cases e with
 | normal => cases hex; exact key .ret .returning rfl (fun v h => by cases h) hQ
 | ret => cases hex; exact key .ret .returning rfl (fun v h => by cases h) hQ
 | panic av =>
  obtain ⟨x, rfl, hx⟩ := hex
  exact key (.pan av false) _ ⟨x, rfl, hx⟩ (fun v h => by cases h) hQ
 | exit id => exact hQ.elim
theorem Z2 {P : Program} {F : Fence} {n : Nat} {fn : Func} {tmps : Array Value} {R : Ending → World → Prop} : ∀ (ds : List Deferred) (u : FrameMode) (w : World) (fr : Frame)
  (cs : List Frame), fr.mode = u → fr.defers = ds → fr.tmps = tmps → P.funcs[fr.fn]? = some fn → fr.kind = .deferred → F.fn fr.fn → F.room (cs.length + 1 + n) → LeavesInM F n P fn tmps R ds u w →
  ∃ e w' fr', R e w' ∧ ComesIn (Machine.fenced P F) P (lone fr cs w) (lone fr' cs w') e ∧ fr'.fn = fr.fn ∧ fr'.kind = .deferred ∧ fr'.going P w' e := by
 intro ds
 induction ds with
 | nil =>
  intro u w fr cs hu hd ht hf hk _ _ h
  cases u with
  | run => exact h.elim
  | returning =>
   obtain ⟨v, hr, hR⟩ := h
   exact ⟨.returned v, w, fr, hR, StepsIn.refl _, rfl, hk, hu, hd, fn, hf, ht ▸ hr⟩
  | panicking chain => exact ⟨.panicked chain, w, fr, h, StepsIn.refl _, rfl, hk, hu, hd, fn, hf⟩
 | cons d ds ih =>
  intro u w fr cs hu hd ht hf hk hb hroom h
  obtain ⟨hrun, h⟩ := h
  rcases h with ⟨r, w', htar, htake, hrest⟩ | ⟨hn, fv, cap, f, args, htar, hinv, hlead, hFf, hcall⟩
  ·have h1 := step_collected (cs := cs) (hu ▸ hrun) hd htar htake
   have i1 : (lone fr cs w).fenced P F := fenced_out hb hroom (hu ▸ hrun) hd (fun g hg => by rw [htar] at hg; simp [Target.leads] at hg)
   obtain ⟨e', w'', fr', hR', hs', hfn', hl'⟩ := ih u w' { fr with defers := [] ++ ds } cs hu rfl ht hf hk hb hroom hrest
   exact ⟨e', w'', fr', hR', ComesIn.of_steps (.one i1 h1) hs', hfn', hl'⟩
  ·have h1 := step_defer (cs := cs) (hu ▸ hrun) hd htar hinv
   have i1 : (lone fr cs w).fenced P F := fenced_out hb hroom (hu ▸ hrun) hd hlead
   have hroom' : F.room (({ fr with defers := ds } :: cs).length + 1 + (n - 1)) := Fence.room_enter hroom hn
   obtain ⟨e, u', w', frX, hR, hsteps, hkX, hfX, hgo⟩ := hcall { fr with defers := ds } cs hu hroom'
   cases e with
   | outgrown => exact ⟨.outgrown, w', fr, hR, Outgrown.of_steps (.one h1) hsteps, rfl, hk, trivial⟩
   | returned v =>
    have i2 : (lone frX ({ { fr with defers := ds } with mode := u' } :: cs) w').fenced P F := fenced_going (n := n - 1) (hfX ▸ hFf) hroom' hgo
    have h2 := step_going_returned (c := { { fr with defers := ds } with mode := u' }) (cs := cs) hkX hgo
    obtain ⟨e', w'', fr', hR', hs', hfn', hl'⟩ := ih (Go.settle u') w' { { { fr with defers := ds } with mode := u' } with mode := Go.settle u' } cs rfl rfl ht hf hk hb hroom hR
    exact ⟨e', w'', fr', hR', ComesIn.of_steps (.head i1 h1 (StepsIn.trans hsteps (.one i2 h2))) hs', hfn', hl'⟩
   | panicked chain =>
    have i2 : (lone frX ({ { fr with defers := ds } with mode := u' } :: cs) w').fenced P F := fenced_going (n := n - 1) (hfX ▸ hFf) hroom' hgo
    have h2 := step_going_panicked (c := { { fr with defers := ds } with mode := u' }) (cs := cs) hgo
    obtain ⟨e', w'', fr', hR', hs', hfn', hl'⟩ := ih (raised u' chain) w' { { { fr with defers := ds } with mode := u' } with mode := raised u' chain } cs rfl rfl ht hf hk hb hroom hR
    exact ⟨e', w'', fr', hR', ComesIn.of_steps (.head i1 h1 (StepsIn.trans hsteps (.one i2 h2))) hs', hfn', hl'⟩
theorem QaU {P : Program} {F : Fence} {n : Nat} {f : FuncId} {fn : Func} {c : Code} {args : Array Value} {u : FrameMode} {w : World} {R : Ending → World → Prop}
  (hf : P.funcs[f]? = some fn) (hb : fn.body = some c) (hF : F.fn f)
  (h : c.wpIn F n P (bodyPostM F n P fn R) { tmps := args ++ Array.replicate (fn.ntmps - args.size) undef, defers := [] } w) (hro : F.round = none) :
  CallsDIn F n P f args u w fun e u' w' => u' = u ∧ R e w' := by
 refine ⟨hF, fun c₀ cs hu hr => ?_⟩
 let b : Frame := { (default : Frame) with fn := f, kind := .deferred, roundOf := none }
 have henter : Frame.enter P f args .deferred =
   b.atR { tmps := args ++ Array.replicate (fn.ntmps - args.size) undef, defers := [] } [.code c] := by
  simp [Frame.enter, Frame.atR, hf, hb, b]
 have hc : ({ c₀ with mode := u } : Frame) = c₀ := by subst hu; rfl
 obtain ⟨e, a', w', hq, harr⟩ := h b [] (c₀ :: cs) hro.symm hF hr
 rw [← henter] at harr
 cases e with
 | normal =>
  obtain ⟨e', w'', fr', hR, hs, hfn, hk, hl⟩ := Z2 a'.defers .returning w' { b.atR a' [] with mode := .returning } (c₀ :: cs) rfl rfl rfl hf rfl hF hr hq
  exact ⟨e', u, w'', fr', ⟨rfl, hR⟩, (by rw [hc]; exact ComesIn.of_steps (StepsIn.trans harr (.one (fenced_calm (fr := b.atR a' []) hF hr rfl) (stepR_end rfl))) hs), hk, hfn, hl⟩
 | ret =>
  obtain ⟨todo, hs₀⟩ := harr.1 rfl
  obtain ⟨e', w'', fr', hR, hs, hfn, hk, hl⟩ := Z2 a'.defers .returning w' { b.atR a' todo with mode := .returning } (c₀ :: cs) rfl rfl rfl hf rfl hF hr hq
  exact ⟨e', u, w'', fr', ⟨rfl, hR⟩, (by rw [hc]; exact ComesIn.of_steps hs₀ hs), hk, hfn, hl⟩
 | panic chain =>
  obtain ⟨todo, hs₀⟩ := harr
  obtain ⟨e', w'', fr', hR, hs, hfn, hk, hl⟩ := Z2 a'.defers (.panicking chain) w' { b.atR a' todo with mode := .panicking chain } (c₀ :: cs) rfl rfl rfl hf rfl hF hr hq
  exact ⟨e', u, w'', fr', ⟨rfl, hR⟩, (by rw [hc]; exact ComesIn.of_steps hs₀ hs), hk, hfn, hl⟩
 | exit id => exact hq.elim
 | goto l => exact hq.elim
 | outgrown => exact ⟨.outgrown, u, w', b, ⟨rfl, hq⟩, harr.resolve_left (by simp [b]), rfl, rfl, trivial⟩
theorem Qc9 {P : Program} {f : FuncId} {fn : Func} {code : Code} {args : List AV} {h : AH} {Q : AH → Prop} (hf : P.funcs[f]? = some fn) (hb : fn.body = some code)
  (hcall : ∀ vals w, (callFunc f vals).run P w = .ok (.enter f vals) w) {N : Nat} (hN : fn.ntmps = N) {rs : List ResultVar} (hrs : fn.results.toList = rs) (hn : args.length ≤ N)
  (H : DefW P N code (Qoo P rs h fun o h' => (∃ r, o = .ret r) ∧ Q h') ⟨Qy args, h⟩ []) (m : AMode) : Qby P f args h m fun m' h' => m' = m ∧ Q h' := by
 subst hN
 refine ⟨hcall, fun F n c vals u hF hro hs hh hvals hm => ?_⟩
 subst hh
 refine (QaU (R := fun e w' => ∃ (o : AOut) (c' : Cx), ((∃ r, o = AOut.ret r) ∧ Q c'.h) ∧ Ev c c' ∧ St c' ∧ c'.w = w' ∧ EndC c' o e) hf hb (hF.fn f) ?_ hro).mono ?_
 ·have hsr : SRd fn.ntmps c.w.heap.size c ⟨Qy args, c.h⟩ { tmps := vals ++ Array.replicate (fn.ntmps - vals.size) undef, defers := [] } [] := by
   refine ⟨rfl, by have := hvals.1; simp; omega, Nat.le_refl _, ⟨[], rfl, rfl, List.nodup_nil, fun e h => by cases h⟩, fun t => ?_⟩
   simp only [Qy]
   rw [Array.getD_eq_getD_getElem?, Array.getElem?_append, List.getD_eq_getElem?_getD]
   have hsz := hvals.1
   by_cases ht : t < vals.size
   ·rw [if_pos ht]
    obtain ⟨u, hu⟩ : ∃ u, vals[t]? = some u := ⟨_, Array.getElem?_eq_getElem ht⟩
    obtain ⟨a, ha⟩ : ∃ a, args[t]? = some a := ⟨_, List.getElem?_eq_getElem (by omega)⟩
    rw [hu, ha]
    exact hvals.2 t a u ha hu
   ·rw [if_neg ht, List.getElem?_eq_none (by omega), Array.getElem?_replicate]
    split
    ·exact .v _
    ·exact .v _
  refine H F n c.w.heap.size c _ hF hro hs hsr _ ?_
  intro e s' ds' c' a' e' hQ hev hst hr hex
  obtain ⟨es, e1, e2, e3, e4⟩ := hr.defs
  subst e2
  have hout : Out fn.ntmps c' s' a'.tmps := ⟨hr.h, hr.size, hr.tm⟩
  have key := fun (m : AMode) (u : FrameMode) (hm : MdC c' m u) (hnr : ∀ v, m ≠ .pan v true) H => e1 ▸ QaK (P := P) hF hro (n := n) (fn := fn) (tmps := a'.tmps) hrs (Q := fun o h' => (∃ r, o = AOut.ret r) ∧ Q h') hs es c' s' m u hev hst hout e3 e4 hm hnr H
  cases e with
  | normal => cases hex; exact key .ret .returning rfl (fun v h => by cases h) hQ
  | ret => cases hex; exact key .ret .returning rfl (fun v h => by cases h) hQ
  | panic av =>
   obtain ⟨x, rfl, hx⟩ := hex
   exact key (.pan av false) _ ⟨x, rfl, hx⟩ (fun v h => by cases h) hQ
  | exit id => exact hQ.elim
 ·rintro e u' w' ⟨rfl, o, c', ⟨⟨r, rfl⟩, hQ⟩, hev, hst', rfl, x, rfl, hx⟩
  exact ⟨x, m, c', rfl, ⟨rfl, hQ⟩, hev, hst', rfl, hm.ev hs hev⟩
theorem Qea {P : Program} {f : FuncId} {fn : Func} {code : Code} {args : List AV} {h : AH} {Q : AH → Prop} (hf : P.funcs[f]? = some fn) (hb : fn.body = some code)
  (hcall : ∀ vals w, (callFunc f vals).run P w = .ok (.enter f vals) w) {N : Nat} (hN : fn.ntmps = N) {rs : List ResultVar} (hrs : fn.results.toList = rs) (hn : args.length ≤ N)
  (H : XC P N code (QE P rs h fun o h' => (∃ r, o = .ret r) ∧ Q h') ⟨Qy args, h⟩) (m : AMode) : Qby P f args h m fun m' h' => m' = m ∧ Q h' :=
 Qc9 hf hb hcall hN hrs hn (Qbg (H.mono fun e s hq => by cases e <;> exact hq)) m
end Go.Proofs.YtniljpjjnmkoaaaGreatDoor.Ab
set_option maxRecDepth 4000
namespace Go.Proofs.YtniljpjjnmkoaaaGreatDoor.Ab
open Go.Proofs
def HB (h : AH) (i j : Nat) (u : Bool) (tx : ByteArray) : AH := hs2 h i (bw 162 i j u tx) j (.grow 5 1 tx.size)
theorem wTy : BTy 162 := .inr rfl
abbrev lpa : ByteArray := { data := #[40] }
abbrev rpa : ByteArray := { data := #[41] }
def encB (b : Bool) (x : ByteArray) : ByteArray := if b then lpa ++ x ++ rpa else x
theorem Qby.mono {P : Program} {f : FuncId} {args : List AV} {h : AH} {m : AMode} {Q Q' : AMode → AH → Prop} (H : Qby P f args h m Q) (hq : ∀ m' h', Q m' h' → Q' m' h') : Qby P f args h m Q' :=
 ⟨H.1, fun F n c vals u hF hro hs hh hvals hm => (H.2 F n c vals u hF hro hs hh hvals hm).mono fun e u' w' ⟨x, m', c', h1, h2, h3⟩ => ⟨x, m', c', h1, hq _ _ h2, h3⟩⟩
theorem Qe4 {h : AH} {i j : Nat} (hi : i < h.length) (hj : j < h.length) (hij : i ≠ j) (u : Bool) (tx : ByteArray) (b : UInt8) (hs : tx.size < 140737488355328) (m : AMode) :
  Qby Tryz.prog 152 [.ptr i 0 0, .v (.int .u8 (b.toNat : Nat))] (HB h i j u tx) m fun m' h' => m' = m ∧ h' = HB h i j true (tx ++ { data := #[b] }) := by
 have f1 := fun x y => Ye h i x j y
 have f2 := fun x y => Yk (h := h) hi hij x y
 have f3 := fun x y z => QcI (h := h) (i := i) (j := j) hij x y z
 have f5 := fun x y z => QcF (h := h) (i := i) (j := j) x y z
 have f7 := fun x y => Qaw (h := h) (i := i) hj x y
 have c1 := ZD wTy hij u tx h hi hj
 have e1 : QX (tx ++ { data := #[b] }) = QX tx ++ [.v (.int .u8 (b.toNat : Nat))] := Y9 tx _
 have e2 : (tx ++ ({ data := #[b] } : ByteArray)).size = tx.size + 1 := QG _ _
 have hs' : tx.size + 1 ≤ 140737488355328 := hs
 have hm : tx.size + 1 ≤ maxLen := by simp only [maxLen]; omega
 refine Qea Tryz.func152 rfl Tryz.call152 Tryz.ntmps152 (congrArg Array.toList Tryz.results152) (by simp) ?_ m
 rw [HB, HB, bw1, e1, e2]
 repeat (first | ((first | (with_reducible (first | refine Qa fun K E hK hE => ?_ | refine Qm fun K E hK hE => ?_ | refine FunW.ret (FunW.call c1) ?_))); simp -implicitDefEqProofs only [Qg, Qh, OpW, QI, aop, undef, AS.ev, Qy, AV.QpF, ↓reduceIte, Qp, QC, QD, QL, QF, QK, XA, X6, zi5, Qmy, QoI, QoM, Qfl, QM, f2, f3, f5, f7, bw1, Xu, hm, hs', Nat.mul_one, seval]) | (with_reducible (first | refine Qc fun K hK => ?_ | refine Qi ?_ | refine Qj ?_ | refine QV ?_ | refine QU ?_ | refine Qk ?_ | refine QB ?_ | refine Qb ?_ | refine Qo ?_ | refine Qw ?_ | refine Qn ?_ | refine Qs ?_ | refine Qv ?_ | refine QO rfl ?_)) | (with_reducible (first | refine hK _ ?_ | (clear hK; refine hK _ ?_) | (clear hK; clear hK; refine hK _ ?_) | (clear hK; clear hK; clear hK; refine hK _ ?_)); clear hK) | (refine Qf rfl ?_; simp only [↓reduceIte, Qqw]) | (intro (b : Bool); cases b))
 simp -implicitDefEqProofs only [Qcv, ↓reduceIte, Qqy, QE, Ql, Qr, QqC]
 exact .inr ⟨⟨_, rfl⟩, rfl⟩
theorem Qaa {h : AH} {i j : Nat} (hi : i < h.length) (hj : j < h.length) (hij : i ≠ j) (need u : Bool) (tx body : ByteArray) {fv r : AV} (hs : tx.size + (encB need body).size ≤ 140737488355328)
  (hw : FunW Tryz.prog fv [] (HB h i j (u || need) (if need then tx ++ lpa else tx)) fun o h' => o = .ret r ∧ h' = HB h i j true ((if need then tx ++ lpa else tx) ++ body)) :
  Q4 Tryz.prog 133 [.ptr i 0 0, .b need, fv] (HB h i j u tx) fun o h' => o = .ret (.tup []) ∧ h' = HB h i j true (tx ++ encB need body) := by
 have f2 := fun x y => Yk (h := h) hi hij x y
 have e0 : ∀ u tx, HB h i j u tx = hs2 h i (bw 162 i j u tx) j (.grow 5 1 tx.size) := fun _ _ => rfl
 have f0 : ∀ u tx, (HB h i j u tx)[i]? = some (bw 162 i j u tx) := fun u tx => f2 _ _
 have f1 : ∀ u tx, bw 162 i j u tx = .cells 162 2 [.agg [if u then .ptr i 0 0 else .v (.pointer none), .sl 1 (QX tx) (some j)]] := fun _ _ => rfl
 cases need
 ·rw [Bool.or_false, if_neg (by decide)] at hw
  refine Qe Tryz.func133 rfl Tryz.call133 Tryz.ntmps133 (congrArg Array.toList Tryz.results133) (by simp) ?_
  repeat (first | ((first | (with_reducible (first | refine Qa fun K E hK hE => ?_ | refine Qm fun K E hK hE => ?_ | refine FunW.ret hw ?_))); simp -implicitDefEqProofs only [Qg, Qh, OpW, QI, aop, undef, AS.ev, Qy, ↓reduceIte, seval]) | (with_reducible (first | refine Qc fun K hK => ?_ | refine Qi ?_ | refine Qj ?_ | refine QV ?_ | refine QU ?_ | refine Qk ?_ | refine QB ?_ | refine Qb ?_ | refine Qo ?_ | refine Qw ?_ | refine Qn ?_ | refine Qs ?_ | refine Qv ?_ | refine QO rfl ?_)) | (with_reducible (first | refine hK _ ?_ | (clear hK; refine hK _ ?_) | (clear hK; clear hK; refine hK _ ?_) | (clear hK; clear hK; clear hK; refine hK _ ?_)); clear hK) | (refine Qf rfl ?_; simp only [↓reduceIte, Qqw]) | (intro (b : Bool); cases b))
  simp -implicitDefEqProofs only [Qqu, Qqy, List.mapM_nil, Option.pure_def, Qqu, QE, Ql, QqC]
  exact .inr ⟨rfl, rfl⟩
 ·rw [Bool.or_true, if_pos rfl] at hw
  have hsz : tx.size + body.size + 2 ≤ 140737488355328 := by
   rw [encB, if_pos rfl, QG, QG] at hs
   have : lpa.size = 1 := rfl
   have : rpa.size = 1 := rfl
   omega
  have c1 := Qfa wTy hij u tx 40 (by omega) h hi hj
  rw [← e0, ← e0, show ((UInt8.toNat 40 : Nat) : Int) = 40 from rfl] at c1
  refine Qd4 Tryz.func133 rfl Tryz.call133 Tryz.ntmps133 (congrArg Array.toList Tryz.results133) (by simp) ?_
  refine Qfg (Qfg (Qbg ?_))
  repeat (first | ((first | (with_reducible (first | refine Qa fun K E hK hE => ?_ | refine Qm fun K E hK hE => ?_))); simp -implicitDefEqProofs only [Qg, Qh, OpW, aop, undef, AS.ev, Qy, Nat.reduceLT]) | (with_reducible (first | refine Qc fun K hK => ?_ | refine Qi ?_ | refine Qj ?_ | refine QV ?_ | refine QU ?_ | refine Qk ?_ | refine QB ?_ | refine Qb ?_ | refine Qo ?_ | refine Qw ?_ | refine Qn ?_ | refine Qs ?_ | refine Qv ?_ | refine QO rfl ?_)) | (with_reducible (first | refine hK _ ?_ | (clear hK; refine hK _ ?_) | (clear hK; clear hK; refine hK _ ?_) | (clear hK; clear hK; clear hK; refine hK _ ?_)); clear hK) | (refine Qf rfl ?_; simp only [↓reduceIte, Qqw]) | (intro (b : Bool); cases b))
  show DefW _ _ _ _ _ _
  refine QlW rfl (Qfg (Qbg ?_))
  repeat (first | ((first | (with_reducible (first | refine Qa fun K E hK hE => ?_ | refine Qm fun K E hK hE => ?_ | refine FunW.ret (FunW.call c1) ?_))); simp -implicitDefEqProofs only [Qg, Qh, OpW, QI, aop, undef, AS.ev, Qy, ↓reduceIte, Qp, XO, QM, f0, f1, seval]) | (with_reducible (first | refine Qc fun K hK => ?_ | refine Qi ?_ | refine Qj ?_ | refine QV ?_ | refine QU ?_ | refine Qk ?_ | refine QB ?_ | refine Qb ?_ | refine Qo ?_ | refine Qw ?_ | refine Qn ?_ | refine Qs ?_ | refine Qv ?_ | refine QO rfl ?_)) | (with_reducible (first | refine hK _ ?_ | (clear hK; refine hK _ ?_) | (clear hK; clear hK; refine hK _ ?_) | (clear hK; clear hK; clear hK; refine hK _ ?_)); clear hK) | (refine Qf rfl ?_; simp only [↓reduceIte, Qqw]) | (intro (b : Bool); cases b))
  show DefW _ _ _ _ _ _
  refine QhZ 3 rfl rfl rfl ?_
  simp -implicitDefEqProofs only [Qg, Qh, OpW, aop, undef, AS.ev, Qy, ↓reduceIte, Qp, XO, QM, f0, f1, seval]
  refine ⟨_, _, _, rfl, ?_⟩
  show DefW _ _ _ _ _ _
  refine Qbg ?_
  repeat (first | ((first | (with_reducible (first | refine Qa fun K E hK hE => ?_ | refine Qm fun K E hK hE => ?_ | refine FunW.ret hw ?_))); simp -implicitDefEqProofs only [Qg, Qh, OpW, QI, aop, undef, AS.ev, Qy, ↓reduceIte, seval]) | (with_reducible (first | refine Qc fun K hK => ?_ | refine Qi ?_ | refine Qj ?_ | refine QV ?_ | refine QU ?_ | refine Qk ?_ | refine QB ?_ | refine Qb ?_ | refine Qo ?_ | refine Qw ?_ | refine Qn ?_ | refine Qs ?_ | refine Qv ?_ | refine QO rfl ?_)) | (with_reducible (first | refine hK _ ?_ | (clear hK; refine hK _ ?_) | (clear hK; clear hK; refine hK _ ?_) | (clear hK; clear hK; clear hK; refine hK _ ?_)); clear hK) | (refine Qf rfl ?_; simp only [↓reduceIte, Qqw]) | (intro (b : Bool); cases b))
  simp only [Qoo, Qia]
  refine Qby.mono (Qe4 hi hj hij true ((tx ++ lpa) ++ body) 41 (by rw [QG, QG]; have : lpa.size = 1 := rfl; omega) .ret) ?_
  rintro m' h' ⟨rfl, rfl⟩
  simp only [AMode.settle, Qia]
  simp -implicitDefEqProofs only [Qqu, Qqy, List.mapM_nil, Option.pure_def, Qqu, QE, Ql, QqC]
  exact .inr ⟨rfl, by rw [encB, if_pos rfl, ByteArray.append_assoc, ByteArray.append_assoc, ByteArray.append_assoc]⟩
end Go.Proofs.YtniljpjjnmkoaaaGreatDoor.Ab
set_option maxRecDepth 4000
namespace Go.Proofs.YtniljpjjnmkoaaaGreatDoor.Ab
open Go.Proofs
abbrev QeE : ByteArray := { data := #[44, 32] }
def binT (o : Int) (n : ByteArray) (oa oc : Int) (x y : ByteArray) : ByteArray := (encB ((oa == 1) && (o == 2)) x ++ (({ data := #[32] } : ByteArray) ++ n ++ { data := #[32] })) ++ encB ((oc != 0) && ((oc == 1) || (o == 2))) y
def YN : Bool → List ByteArray → ByteArray
 | _, [] => .empty
 | f, x :: r => (if f then x else QeE ++ x) ++ YN false r
def funT (n : ByteArray) (l : List ByteArray) : ByteArray := n ++ encB (decide (0 < l.length)) (YN true l)
mutual
def T.txt : T → ByteArray
 | .mk k i n l => if (T.mk k i n l).oper ≠ 0 then (match l.map T.oper, txts l with
   | [oa, oc], [x, y] => binT (ofB n) n oa oc x y
   | _, _ => .empty) else
  if k = 0 then decZ i else if k = 1 then vOf (decN i.toNat) else funT n (txts l)
def txts : List T → List ByteArray
 | [] => []
 | t :: l => t.txt :: txts l
end
theorem QnU (l : List T) : txts l = l.map T.txt := by
 induction l with
 | nil => rfl
 | cons t l ih => rw [txts, ih]; rfl
mutual
def T.lex : T → Prop
 | .mk k i n l => (k = 0 → -9223372036854775807 ≤ i ∧ i ≤ 9223372036854775807) ∧ (k = 1 → 0 ≤ i ∧ i ≤ 1048576) ∧ l.length ≤ 1000000 ∧ n.size ≤ 1000000 ∧ lexL l
def lexL : List T → Prop
 | [] => True
 | t :: l => t.lex ∧ lexL l
end
section
variable {h : AH} {i j : Nat} (hi : i < h.length) (hj : j < h.length) (hij : i ≠ j)
theorem Qej (h : AH) (i j : Nat) (u : Bool) (tx : ByteArray) : (HB h i j u tx).length = h.length := Ye _ _ _ _ _
theorem QdH (h : AH) (i j : Nat) (u : Bool) (tx : ByteArray) (L : AH) : (HB h i j u tx ++ L)[h.length]? = L[0]? := Qni _ _ _
theorem QgW (h : AH) (i j : Nat) (u : Bool) (tx : ByteArray) (L : AH) (k : Nat) : (HB h i j u tx ++ L)[h.length + k]? = L[k]? := Qoa _ _ _ _
theorem Qml (h : AH) (i j : Nat) (u : Bool) (tx : ByteArray) (z : AB) (L : AH) : (HB h i j u tx ++ L).set h.length z = HB h i j u tx ++ L.set 0 z := Qld _ _ _ _
theorem Qog (h : AH) (i j : Nat) (u : Bool) (tx : ByteArray) (z : AB) (L : AH) (k : Nat) : (HB h i j u tx ++ L).set (h.length + k) z = HB h i j u tx ++ L.set k z := Qne _ _ _ _ _
include hi hj in
theorem Qi2 (u : Bool) (tx : ByteArray) (L : AH) : HB (h ++ L) i j u tx = HB h i j u tx ++ L := Qh4 hi hj _ _ _
include hi hij in
theorem QcK (u : Bool) (tx : ByteArray) (L : AH) : (HB h i j u tx ++ L)[i]? = some (.cells 162 2 [.agg [if u then .ptr i 0 0 else .v (.pointer none), .sl 1 (QX tx) (some j)]]) := Qme hi hij _ _ _
theorem QoS {u u' : Bool} {tx tx' : ByteArray} (hij : i ≠ j) (H : Xj (HB h i j u tx)) : Xj (HB h i j u' tx') := by
 obtain ⟨k, ty, fr, e⟩ := H
 refine ⟨k, ty, fr, ?_⟩
 have hk := QA e
 rw [Qej] at hk
 by_cases h1 : i = k
 ·subst h1; rw [HB, Yk hk hij] at e; cases e
 ·by_cases h2 : j = k
  ·subst h2; rw [HB, Qaw hk] at e; cases e
  ·rw [HB, YV _ _ h1 h2] at e ⊢; exact e
theorem Xk {u u' : Bool} {tx tx' : ByteArray} {L : AH} {r r' : AV} {Q : AV → AH → Prop} (hi : i < h.length) (hj : j < h.length) (hij : i ≠ j) (hf : Frz (HB h i j u' tx' ++ L) h.length r r') (hq : Q r' (HB h i j u' tx')) : Leaves (HB h i j u tx) (HB h i j u' tx' ++ L) r Q :=
 QjE hij (Qnr hi hj) trivial hf hq
end
def Wri (f : FuncId) (args : List AV) (h : AH) (i j : Nat) (u : Bool) (tx add : ByteArray) : Prop :=
 Q4 Tryz.prog f args (HB h i j u tx) fun o h' => o = .ret (.tup []) ∧ h' = HB h i j true (tx ++ add)
theorem wstr {h : AH} {i j : Nat} (hi : i < h.length) (hj : j < h.length) (hij : i ≠ j) (u : Bool) (tx s : ByteArray) (hs : tx.size + s.size ≤ 140737488355328) :
  Q4 Tryz.prog 106 [.ptr i 0 0, .v (.string s)] (HB h i j u tx) fun o h' => o = .ret (.tup [.i s.size, .v .nilIface]) ∧ h' = HB h i j true (tx ++ s) :=
 Qds wTy hij u tx s hs h hi hj
theorem YK {p : Prop} (h : 2 = 3) : p := by cases h
theorem QkW {G G' : AH} {p q i : Nat} {t a : T} {r : AV} (hp : G[p]? = some (.cells 129 1 [.ptr i 0 0])) (hq : G[q]? = some (.cells 41 4 [t.av])) (ha : t.args[0]? = some a)
  (H : Q4 Tryz.prog 102 [.ptr i 0 0, a.av] G fun o h' => o = .ret r ∧ h' = G') :
  Q4 Tryz.prog 134 [.ptr p 0 0, .ptr q 0 0] G fun o h' => o = .ret (.tup []) ∧ h' = G' := by
 have e1 : t.av = .agg [.i t.kind, .i t.int, .v (.string t.name), .sl 4 (avs t.args) none] := by cases t; rfl
 have hlt : 0 < t.args.length := QA ha
 have hz : (0 : Int) < t.args.length := by omega
 have hg := Xc hlt
 have ea : t.args[0] = a := by rw [List.getElem?_eq_getElem hlt] at ha; injection ha
 rw [ea] at hg
 rw [e1] at hq
 refine Qe Tryz.func134 rfl Tryz.call134 Tryz.ntmps134 (congrArg Array.toList Tryz.results134) (by simp) ?_
 repeat (first | ((first | (with_reducible refine Xi (FunW.call H) YK ?_) | (refine QH (id := 0) [(0, 0), (1, 0), (2, 0), (3, 0), (4, 0), (5, 2)] mixed (by kernel_rfl) fun K hK => ?_)); simp -implicitDefEqProofs only [Qg, Qh, aop, undef, AS.ev, Qy, ↓reduceIte, Qp, QC, QD, Qz, ti29, ei29, ti41, Xg, Zf, Qrf, hp, hq, hz, hg, seval]) | ((with_reducible refine hK _ ?_); clear hK))
 simp -implicitDefEqProofs only [Qqu, Qqy, List.mapM_nil, Option.pure_def, Qqu, QE, Ql, QqC]
 exact .inr ⟨rfl, rfl⟩
theorem Qmi {G G' : AH} {p q i : Nat} {t a : T} {r : AV} (hp : G[p]? = some (.cells 129 1 [.ptr i 0 0])) (hq : G[q]? = some (.cells 41 4 [t.av])) (ha : t.args[1]? = some a)
  (H : Q4 Tryz.prog 102 [.ptr i 0 0, a.av] G fun o h' => o = .ret r ∧ h' = G') :
  Q4 Tryz.prog 135 [.ptr p 0 0, .ptr q 0 0] G fun o h' => o = .ret (.tup []) ∧ h' = G' := by
 have e1 : t.av = .agg [.i t.kind, .i t.int, .v (.string t.name), .sl 4 (avs t.args) none] := by cases t; rfl
 have hlt : 1 < t.args.length := QA ha
 have hz : (1 : Int) < t.args.length := by omega
 have z1 : (0 : Int) ≤ 1 := by decide
 have hg := Xc hlt
 have ea : t.args[1] = a := by rw [List.getElem?_eq_getElem hlt] at ha; injection ha
 rw [ea] at hg
 rw [e1] at hq
 refine Qe Tryz.func135 rfl Tryz.call135 Tryz.ntmps135 (congrArg Array.toList Tryz.results135) (by simp) ?_
 repeat (first | ((first | (with_reducible refine Xi (FunW.call H) YK ?_) | (refine QH (id := 0) [(0, 0), (1, 0), (2, 0), (3, 0), (4, 0), (5, 2)] mixed (by kernel_rfl) fun K hK => ?_)); simp -implicitDefEqProofs only [Qg, Qh, aop, undef, AS.ev, Qy, ↓reduceIte, Qp, QC, QD, Qz, ti29, ei29, ti41, Xg, Zf, hp, hq, hz, z1, hg, seval]) | ((with_reducible refine hK _ ?_); clear hK))
 simp -implicitDefEqProofs only [Qqu, Qqy, List.mapM_nil, Option.pure_def, Qqu, QE, Ql, QqC]
 exact .inr ⟨rfl, rfl⟩
theorem QjZ (f : Bool) (l : List ByteArray) : ∀ x r, l = x :: r → (YN f l).size = (if f then 0 else 2) + x.size + (YN false r).size := by
 rintro x r rfl
 rw [YN, QG]
 cases f
 ·simp only [Qqw, if_false, QG]; have : QeE.size = 2 := rfl; omega
 ·simp
theorem Qhy {h : AH} {i j : Nat} (hi : i < h.length) (hj : j < h.length) (hij : i ≠ j) (l : List T) {p q : Nat} (hp : p < h.length) (hq : q < h.length) (hpi : i ≠ p) (hpj : j ≠ p) (hqi : i ≠ q) (hqj : j ≠ q)
  (gp : h[p]? = some (.cells 129 1 [.ptr i 0 0])) (gq : h[q]? = some (.cells 29 1 [.sl 4 (avs l) none])) (hl : l.length ≤ 1000000)
  (ih : ∀ t ∈ l, ∀ (h : AH), i < h.length → j < h.length → Xj (HB h i j true (.empty)) → ∀ tx : ByteArray, tx.size + t.txt.size ≤ 140737488355328 → Wri 102 [.ptr i 0 0, t.av] h i j true tx t.txt)
  (hG : Xj (HB h i j true (.empty))) (tx : ByteArray) (hs : tx.size + (YN true (txts l)).size ≤ 140737488355328) :
  Wri 136 [.ptr q 0 0, .ptr p 0 0] h i j true tx (YN true (txts l)) := by
 have k0 : ∀ u tx L, (HB h i j u tx ++ L)[p]? = some (.cells 129 1 [.ptr i 0 0]) := fun u tx L => by
  rw [List.getElem?_append_left (by rw [Qej]; exact hp), HB, YV _ _ hpi hpj, gp]
 have k1 : ∀ u tx, (HB h i j u tx)[q]? = some (.cells 29 1 [.sl 4 (avs l) none]) := fun u tx => by
  rw [HB, YV _ _ hqi hqj, gq]
 have f1 := Qej h i j
 have f2 := fun u tx L => QdH h i j u tx L
 have f3 := fun u tx L => QgW h i j u tx L
 have f4 := fun u tx z L => Qml h i j u tx z L
 have f5 := fun u tx z L => Qog h i j u tx z L
 have f6 := fun u tx L => QcK (h := h) hi hij u tx L
 refine Qe Tryz.func136 rfl Tryz.call136 Tryz.ntmps136 (congrArg Array.toList Tryz.results136) (by simp) ?_
 repeat (first | (((with_reducible refine Qa fun K E hK hE => ?_)); simp -implicitDefEqProofs only [Qg, Qh, OpW, aop, undef, AS.ev, Qy, ↓reduceIte, Nat.reduceLT, QC, QD, aLen, goInt, ti29, un29, k1]) | (with_reducible refine Qi ?_) | ((with_reducible refine hK _ ?_); clear hK))
 obtain ⟨I, hI⟩ : ∃ I : Nat → AS → Prop, I = fun m' s => ∃ (k : Nat) (cur : ByteArray), m' = l.length - k ∧ k ≤ l.length ∧ cur ++ YN (decide (k = 0)) (txts (l.drop k)) = tx ++ YN true (txts l) ∧ s.tm 0 = .ptr q 0 0 ∧ s.tm 1 = .ptr p 0 0 ∧ s.tm 4 = .sl 4 (avs l) none ∧ s.tm 5 = .i l.length ∧ s.tm 6 = .i k ∧ (∃ L, s.h = HB h i j true cur ++ L) := ⟨_, rfl⟩; refine QJ I ?_ (m := l.length) ?_
 ·intro m' s hs; rw [hI] at hs; obtain ⟨tm, hp⟩ := s; dsimp only at hs; obtain ⟨k, cur, rfl, hk, he, t0, t1, t4, t5, t6, L, rfl⟩ := hs
  by_cases hlt : k < l.length
  ·have hg := Xc hlt
   have z1 : (k : Int) < l.length := by omega
   have hsz : cur.size + (YN (decide (k = 0)) (txts (l.drop k))).size = tx.size + (YN true (txts l)).size := by rw [← QG, he, QG]
   have hd : txts (l.drop k) = (l[k]).txt :: txts (l.drop (k + 1)) := by rw [List.drop_eq_getElem_cons hlt]; rfl
   have hcm : QeE.size = 2 := rfl
   rw [hd, YN, QG] at hsz
   rw [hd, YN] at he
   have gapp := fun (u : Bool) (tx : ByteArray) (L : AH) => Qi2 (h := h) (i := i) (j := j) hi hj u tx L
   have glen : ∀ L : AH, i < (h ++ L).length ∧ j < (h ++ L).length := fun L => by rw [List.length_append]; omega
   by_cases hk0 : k = 0
   ·rw [decide_eq_true hk0, if_pos rfl] at hsz he
    have z2 : ¬ (k : Int) > 0 := by omega
    have c := ih l[k] (List.getElem_mem hlt) (h ++ (L ++ [AB.cells 41 4 [l[k].av]])) (glen _).1 (glen _).2 (by rw [gapp]; exact HasG.app hG _) cur (by omega)
    rw [Wri, gapp, gapp] at c
    repeat (first | ((first | (with_reducible (first | refine Qa fun K E hK hE => ?_ | refine Qm fun K E hK hE => ?_ | refine FunW.ret (FunW.call c) ?_))); simp -implicitDefEqProofs only [Qg, Qh, OpW, QI, aop, undef, AS.ev, AV.QpF, ↓reduceIte, QC, QD, QL, QF, Qz, aBin, ei29, ti41, zi41, Zf, t1, t4, t5, t6, z1, z2, hg, k0, f1, f3, f5, seval]) | (with_reducible (first | refine Qc fun K hK => ?_ | refine Qi ?_ | refine Qk ?_ | refine Qb ?_ | refine Qn ?_)) | ((with_reducible refine hK _ ?_); clear hK) | (refine Qf rfl ?_; simp only [↓reduceIte, Qqw]))
    refine Q1.mk (m' := l.length - (k + 1)) (by omega) ?_
    rw [hI]
    refine ⟨k + 1, cur ++ (l[k]).txt, rfl, hlt, ?_, t0, t1, t4, t5, ?_, _, rfl⟩
    ·rw [decide_eq_false (Nat.succ_ne_zero k), ByteArray.append_assoc]; exact he
    ·simp only [upd, ↓reduceIte]
     rw [QP (by omega)]
   ·rw [decide_eq_false hk0, if_neg (by decide), QG] at hsz
    rw [decide_eq_false hk0, if_neg (by decide)] at he
    have z2 : (k : Int) > 0 := by omega
    have c1 := wstr (h := h ++ (L ++ [AB.cells 41 4 [l[k].av]])) (glen _).1 (glen _).2 hij true cur QeE (by omega)
    rw [gapp, gapp] at c1
    have c := ih l[k] (List.getElem_mem hlt) (h ++ (L ++ [AB.cells 41 4 [l[k].av]])) (glen _).1 (glen _).2 (by rw [gapp]; exact HasG.app hG _) (cur ++ QeE) (by rw [QG]; omega)
    rw [Wri, gapp, gapp] at c
    repeat (first | ((first | (with_reducible (first | refine Qa fun K E hK hE => ?_ | refine Qm fun K E hK hE => ?_ | refine FunW.ret (FunW.call c) ?_ | refine FunW.ret (FunW.call c1) ?_))); simp -implicitDefEqProofs only [Qg, Qh, OpW, QI, aop, undef, AS.ev, AV.QpF, ↓reduceIte, Qp, QC, QD, QL, QF, Qz, aBin, ei29, ti41, zi41, Zf, XO, QM, t1, t4, t5, t6, z1, z2, hg, k0, f1, f3, f5, f6, seval]) | (with_reducible (first | refine Qc fun K hK => ?_ | refine Qi ?_ | refine Qk ?_ | refine Qb ?_ | refine Qn ?_)) | ((with_reducible refine hK _ ?_); clear hK) | (refine Qf rfl ?_; simp only [↓reduceIte]))
    refine Q1.mk (m' := l.length - (k + 1)) (by omega) ?_
    rw [hI]
    refine ⟨k + 1, (cur ++ QeE) ++ (l[k]).txt, rfl, hlt, ?_, t0, t1, t4, t5, ?_, _, rfl⟩
    ·rw [decide_eq_false (Nat.succ_ne_zero k)]; simp only [ByteArray.append_assoc] at he ⊢; exact he
    ·simp only [upd, ↓reduceIte]
     rw [QP (by omega)]
  ·have hkn : k = l.length := by omega
   subst hkn
   have z1 : ¬ ((l.length : Nat) : Int) < l.length := by omega
   rw [List.drop_length, txts, YN, ByteArray.append_empty] at he
   repeat (first | (((with_reducible refine Qa fun K E hK hE => ?_)); simp -implicitDefEqProofs only [Qg, Qh, OpW, aop, AS.ev, Nat.reduceLT, aBin, t5, t6, z1]) | (with_reducible (first | refine Qc fun K hK => ?_ | refine QB ?_ | refine Qw ?_ | refine Qv ?_)) | ((with_reducible refine hK _ ?_); clear hK) | (refine Qf rfl ?_; simp only [↓reduceIte, Qqw]))
   simp -implicitDefEqProofs only [Qqu, Qqy, List.mapM_nil, Option.pure_def, Qqu, QE, Ql, QqC]
   exact Xk hi hj hij (.keep (.tup _ fun x hx => by cases hx)) ⟨rfl, by rw [he]⟩
 ·rw [hI]
  exact ⟨0, tx, rfl, by omega, rfl, rfl, rfl, rfl, rfl, rfl, [], (List.append_nil _).symm⟩
theorem Qdm (l : List T) : (txts l).length = l.length := by rw [QnU, List.length_map]
theorem Qdz {h : AH} {i j : Nat} (hi : i < h.length) (hj : j < h.length) (hij : i ≠ j) (l : List T) (hl : l.length ≤ 1000000) (s : ByteArray)
  (ih : ∀ t ∈ l, ∀ (h : AH), i < h.length → j < h.length → Xj (HB h i j true (.empty)) → ∀ tx : ByteArray, tx.size + t.txt.size ≤ 140737488355328 → Wri 102 [.ptr i 0 0, t.av] h i j true tx t.txt)
  (hG : Xj (HB h i j true (.empty))) (u : Bool) (tx : ByteArray) (hs : tx.size + (funT s (txts l)).size ≤ 140737488355328) :
  Wri 104 [.ptr i 0 0, .v (.string s), .sl 4 (avs l) none] h i j u tx (funT s (txts l)) := by
 obtain ⟨L, hL⟩ : ∃ L : AH, L = [AB.cells 129 1 [.ptr i 0 0], AB.cells 29 1 [.sl 4 (avs l) none]] := ⟨_, rfl⟩
 have hlL : (h ++ L).length = h.length + 2 := by rw [hL]; simp
 have hi' : i < (h ++ L).length := by omega
 have hj' : j < (h ++ L).length := by omega
 have gapp := fun (u : Bool) (tx : ByteArray) (L : AH) => Qi2 (h := h) (i := i) (j := j) hi hj u tx L
 have hsz : (funT s (txts l)).size = s.size + (encB (decide (0 < (txts l).length)) (YN true (txts l))).size := by rw [funT, QG]
 rw [Qdm] at hsz
 obtain ⟨body, hbody⟩ : ∃ b, b = YN true (txts l) := ⟨_, rfl⟩
 rw [← hbody] at hsz
 have hbs : body.size ≤ (encB (decide (0 < l.length)) body).size := by
  rw [encB]; split
  ·rw [QG, QG]; omega
  ·exact Nat.le_refl _
 have c1 := wstr (h := h ++ L) hi' hj' hij u tx s (by omega)
 rw [gapp, gapp, hL] at c1
 have gp : (h ++ L)[h.length]? = some (.cells 129 1 [.ptr i 0 0]) := by rw [hL]; simp
 have gq : (h ++ L)[h.length + 1]? = some (.cells 29 1 [.sl 4 (avs l) none]) := by rw [hL]; simp
 have hn : decide ((l.length : Int) > 0) = decide (0 < l.length) := by rw [Bool.eq_iff_iff]; simp
 have hx : ((if decide (0 < l.length) = true then tx ++ s ++ lpa else tx ++ s)).size + body.size ≤ 140737488355328 := by
  by_cases h0 : 0 < l.length
  ·rw [if_pos (decide_eq_true h0), QG, QG]
   rw [encB, if_pos (decide_eq_true h0), QG, QG] at hsz
   omega
  ·rw [if_neg (by simpa using h0), QG]
   omega
 have hw := Qhy (h := h ++ L) hi' hj' hij l (p := h.length) (q := h.length + 1) (by omega) (by omega) (by omega) (by omega) (by omega) (by omega) gp gq hl ih (by rw [gapp]; exact HasG.app hG _)
  (if decide (0 < l.length) = true then tx ++ s ++ lpa else tx ++ s) (by rw [← hbody]; exact hx)
 rw [← hbody] at hw
 have c2 := Qaa (h := h ++ L) hi' hj' hij (decide (0 < l.length)) true (tx ++ s) body (fv := .fn (.func 136) [] [.ptr (h.length + 1) 0 0, .ptr h.length 0 0]) (by rw [QG]; omega) (FunW.fn hw)
 rw [gapp, gapp, hL] at c2
 have f2 := fun u tx L => QdH h i j u tx L
 have f3 := fun u tx L => QgW h i j u tx L
 have f6 := fun u tx L => QcK (h := h) hi hij u tx L
 have f1 := Qej h i j
 refine Qe Tryz.func104 rfl Tryz.call104 Tryz.ntmps104 (congrArg Array.toList Tryz.results104) (by simp) ?_
 repeat (first | ((first | (with_reducible (first | refine Qa fun K E hK hE => ?_ | refine Qm fun K E hK hE => ?_ | refine FunW.ret (FunW.call c1) ?_ | refine FunW.ret (FunW.call c2) ?_))); simp -implicitDefEqProofs only [Qg, Qh, OpW, QI, aop, undef, AS.ev, Qy, AV.QpF, ↓reduceIte, Qp, QC, QD, aBin, aLen, goInt, ti29, un29, Zf, XO, QM, f1, f2, f3, f6, hn, seval]) | ((with_reducible refine hK _ ?_); clear hK))
 simp -implicitDefEqProofs only [Qqu, Qqy, List.mapM_nil, Option.pure_def, Qqu, QE, Ql, QqC]
 exact Xk hi hj hij (.keep (.tup _ fun x hx => by cases hx)) ⟨rfl, by rw [funT, Qdm, ← hbody, ByteArray.append_assoc]⟩
end Go.Proofs.YtniljpjjnmkoaaaGreatDoor.Ab
set_option maxRecDepth 4000
namespace Go.Proofs.YtniljpjjnmkoaaaGreatDoor.Ab
open Go.Proofs
def TIh (i j : Nat) (t : T) : Prop := ∀ (h : AH), i < h.length → j < h.length → Xj (HB h i j true (.empty)) → ∀ (u : Bool) (tx : ByteArray), tx.size + t.txt.size ≤ 140737488355328 → Wri 102 [.ptr i 0 0, t.av] h i j u tx t.txt
theorem QkI (b : Bool) (x tx : ByteArray) : (if b = true then tx ++ lpa else tx).size + x.size ≤ tx.size + (encB b x).size := by
 rw [encB]; split
 ·rw [QG, QG, QG]; omega
 ·exact Nat.le_refl _
theorem Qm4 {h : AH} {i j : Nat} (hi : i < h.length) (hj : j < h.length) (hij : i ≠ j) (n : ByteArray) (x : Int) (a c : T) (hn : n.size ≤ 1000000) (ho : ofB n ≠ 0) (hla : a.args.length ≤ 1000000) (hlc : c.args.length ≤ 1000000) (iha : TIh i j a) (ihc : TIh i j c)
  (hG : Xj (HB h i j true (.empty))) (u : Bool) (tx : ByteArray) (hs : tx.size + (binT (ofB n) n a.oper c.oper a.txt c.txt).size ≤ 140737488355328) :
  Wri 102 [.ptr i 0 0, (T.mk 2 x n [a, c]).av] h i j u tx (binT (ofB n) n a.oper c.oper a.txt c.txt) := by
 obtain ⟨t, ht⟩ : ∃ t, t = T.mk 2 x n [a, c] := ⟨_, rfl⟩
 have eo : t.oper = ofB n := by rw [ht]; rfl
 have eav : t.av = .agg [.i 2, .i x, .v (.string n), .sl 4 (avs [a, c]) none] := by rw [ht]; rfl
 obtain ⟨L, hL⟩ : ∃ L : AH, L = [AB.cells 129 1 [.ptr i 0 0], AB.cells 41 4 [t.av]] := ⟨_, rfl⟩
 have hlL : (h ++ L).length = h.length + 2 := by rw [hL]; simp
 have hi' : i < (h ++ L).length := by omega
 have hj' : j < (h ++ L).length := by omega
 have gapp := fun (u : Bool) (tx : ByteArray) (L : AH) => Qi2 (h := h) (i := i) (j := j) hi hj u tx L
 have hG' : Xj (HB (h ++ L) i j true (.empty)) := by rw [gapp]; exact HasG.app hG _
 have gp : ∀ u tx, (HB (h ++ L) i j u tx)[h.length]? = some (.cells 129 1 [.ptr i 0 0]) := fun u tx => by rw [gapp, QdH, hL]; rfl
 have gq : ∀ u tx, (HB (h ++ L) i j u tx)[h.length + 1]? = some (.cells 41 4 [t.av]) := fun u tx => by rw [gapp, QgW, hL]; rfl
 have ct := QaF t (by rw [ht]; simp [maxLen, T.args])
 rw [eo, eav] at ct
 have ca := QaF a (by simp only [maxLen]; omega)
 have cc := QaF c (by simp only [maxLen]; omega)
 obtain ⟨o, eoo⟩ : ∃ o, o = ofB n := ⟨_, rfl⟩
 obtain ⟨oa, eoa⟩ : ∃ o, o = a.oper := ⟨_, rfl⟩
 obtain ⟨oc, eoc⟩ : ∃ o, o = c.oper := ⟨_, rfl⟩
 rw [← eoo] at ct
 rw [← eoa] at ca
 rw [← eoc] at cc
 rw [← eoo, ← eoa, ← eoc] at hs ⊢
 rw [← eoo] at ho
 have hm := hs
 simp only [binT, QG] at hm
 have hsp : ({ data := #[32] } : ByteArray).size = 1 := rfl
 -- the first operand
 have hw1 := fun (u : Bool) (q : Bool) (tx' : ByteArray) (hq : tx'.size + a.txt.size ≤ 140737488355328) => QkW (p := h.length) (q := h.length + 1) (t := t) (a := a) (gp u tx') (gq u tx') (by rw [ht]; rfl) (iha (h ++ L) hi' hj' hG' u tx' hq)
 have hw2 := fun (u : Bool) (q : Bool) (tx' : ByteArray) (hq : tx'.size + c.txt.size ≤ 140737488355328) => Qmi (p := h.length) (q := h.length + 1) (t := t) (a := c) (gp u tx') (gq u tx') (by rw [ht]; rfl) (ihc (h ++ L) hi' hj' hG' u tx' hq)
 have e1 := QkI ((oa == 1) && (o == 2)) a.txt tx
 have c1 := Qaa (h := h ++ L) hi' hj' hij ((oa == 1) && (o == 2)) u tx a.txt (fv := .fn (.func 134) [] [.ptr h.length 0 0, .ptr (h.length + 1) 0 0]) (by omega) (FunW.fn (hw1 _ true _ (by omega)))
 obtain ⟨tx1, etx1⟩ : ∃ z, z = tx ++ encB ((oa == 1) && (o == 2)) a.txt := ⟨_, rfl⟩
 rw [← etx1] at c1
 have hsz1 : tx1.size = tx.size + (encB ((oa == 1) && (o == 2)) a.txt).size := by rw [etx1, QG]
 have c2 := wstr (h := h ++ L) hi' hj' hij true tx1 (({ data := #[32] } : ByteArray) ++ n ++ { data := #[32] }) (by simp only [QG]; omega)
 obtain ⟨tx2, etx2⟩ : ∃ z, z = tx1 ++ (({ data := #[32] } : ByteArray) ++ n ++ { data := #[32] }) := ⟨_, rfl⟩
 rw [← etx2] at c2
 have hsz2 : tx2.size = tx1.size + (1 + n.size + 1) := by rw [etx2]; simp only [QG, hsp]
 have e3 := QkI ((oc != 0) && ((oc == 1) || (o == 2))) c.txt tx2
 have c3 := Qaa (h := h ++ L) hi' hj' hij ((oc != 0) && ((oc == 1) || (o == 2))) true tx2 c.txt (fv := .fn (.func 135) [] [.ptr h.length 0 0, .ptr (h.length + 1) 0 0]) (by omega) (FunW.fn (hw2 _ true _ (by omega)))
 have efin : tx2 ++ encB ((oc != 0) && ((oc == 1) || (o == 2))) c.txt = tx ++ binT o n oa oc a.txt c.txt := by
  rw [etx2, etx1, binT]; simp only [ByteArray.append_assoc]
 rw [efin] at c3
 rw [gapp, gapp, hL, eav] at c1 c2 c3
 have f1 := Qej h i j
 have f2 := fun u tx L => QdH h i j u tx L
 have f3 := fun u tx L => QgW h i j u tx L
 have f6 := fun u tx L => QcK (h := h) hi hij u tx L
 have hsa1 := fun xo yo => ZV Tryz.prog 9 xo yo ({ data := #[32] } : ByteArray) n (by omega)
 have hsa2 := fun xo yo => ZV Tryz.prog 9 xo yo (({ data := #[32] } : ByteArray) ++ n) { data := #[32] } (by rw [QG]; omega)
 have ga : (avs [a, c])[0]? = some a.av := rfl
 have gc : (avs [a, c])[1]? = some c.av := rfl
 have hav : (T.mk 2 x n [a, c]).av = .agg [.i 2, .i x, .v (.string n), .sl 4 (avs [a, c]) none] := rfl
 have ho' : (o != 0) = true := by simpa using ho
 rw [hav]
 have hll : (avs [a, c]).length = 2 := rfl
 have z0 : ((0 : Int) ≤ 1) = True := by simp
 have z1 : ((0 : Int) < ((2 : Nat) : Int)) = True := by simp
 have z2 : ((1 : Int) < ((2 : Nat) : Int)) = True := by simp
 obtain ⟨q1, eq1⟩ : ∃ z, z = ((oa == 1) && (o == 2)) := ⟨_, rfl⟩
 obtain ⟨q3, eq3⟩ : ∃ z, z = ((oc != 0) && ((oc == 1) || (o == 2))) := ⟨_, rfl⟩
 rw [← eq1] at c1
 rw [← eq3] at c3
 cases b1 : (oa == 1)
 ·cases b2 : (o == 2)
  ·cases b3 : (oc != 0)
   ·have hq1 : q1 = false := by rw [eq1, b1, b2]; rfl
    have hq3 : q3 = false := by rw [eq3, b2, b3]; rfl
    rw [hq1] at c1
    rw [hq3] at c3
    refine Qe Tryz.func102 rfl Tryz.call102 Tryz.ntmps102 (congrArg Array.toList Tryz.results102) (by simp) ?_
    repeat (first | ((first | (with_reducible (first | refine Qa fun K E hK hE => ?_ | refine Qm fun K E hK hE => ?_ | refine Qq ct ?_ | refine Qu ca ?_ | refine Qu cc ?_ | refine FunW.ret (FunW.call c1) ?_ | refine FunW.ret (FunW.call c3) ?_ | refine Xi (FunW.call c2) YK ?_)) | (refine Qt (id := 4) [(0, 0), (1, 0), (2, 0), (3, 0), (4, 1), (5, 0), (6, 0), (7, 0), (8, 0), (9, 1), (10, 0), (11, 0)] mixed (by kernel_rfl) fun K hK => ?_) | (refine Qt (id := 6) [(0, 0), (1, 0), (2, 0), (3, 0), (4, 0), (5, 0), (6, 0), (7, 2)] mixed (by kernel_rfl) fun K hK => ?_)); simp -implicitDefEqProofs only [Qg, Qh, OpW, QI, aop, undef, AS.ev, Qy, AV.QpF, ↓reduceIte, Qp, QC, QD, Qz, aBin, ti9, ti29, ei29, ti41, Xs, Xg, Zf, XO, Qrf, QM, f1, f2, f3, f6, ho', hll, ga, gc, z0, z1, z2, b1, b3, hsa1, hsa2, seval]) | (with_reducible (first | refine Qi ?_ | refine Qn ?_)) | ((with_reducible refine hK _ ?_); clear hK) | (refine Qf rfl ?_; simp only [↓reduceIte]))
    simp -implicitDefEqProofs only [Qqu, Qqy, List.mapM_nil, Option.pure_def, Qqu, QE, Ql, QqC]
    exact Xk hi hj hij (.keep (.tup _ fun x hx => by cases hx)) ⟨rfl, rfl⟩
   ·cases b4 : (oc == 1)
    ·have hq1 : q1 = false := by rw [eq1, b1, b2]; rfl
     have hq3 : q3 = false := by rw [eq3, b2, b3, b4]; rfl
     rw [hq1] at c1
     rw [hq3] at c3
     refine Qe Tryz.func102 rfl Tryz.call102 Tryz.ntmps102 (congrArg Array.toList Tryz.results102) (by simp) ?_
     repeat (first | ((first | (with_reducible (first | refine Qa fun K E hK hE => ?_ | refine Qm fun K E hK hE => ?_ | refine Qq ct ?_ | refine Qu ca ?_ | refine Qu cc ?_ | refine FunW.ret (FunW.call c1) ?_ | refine FunW.ret (FunW.call c3) ?_ | refine Xi (FunW.call c2) YK ?_)) | (refine Qt (id := 4) [(0, 0), (1, 0), (2, 0), (3, 0), (4, 1), (5, 0), (6, 0), (7, 0), (8, 0), (9, 1), (10, 0), (11, 0)] mixed (by kernel_rfl) fun K hK => ?_) | (refine Qt (id := 6) [(0, 0), (1, 0), (2, 0), (3, 0), (4, 0), (5, 0), (6, 0), (7, 2)] mixed (by kernel_rfl) fun K hK => ?_)); simp -implicitDefEqProofs only [Qg, Qh, OpW, QI, aop, undef, AS.ev, Qy, AV.QpF, ↓reduceIte, Qp, QC, QD, Qz, aBin, ti9, ti29, ei29, ti41, Xs, Xg, Zf, XO, Qrf, QM, f1, f2, f3, f6, ho', hll, ga, gc, z0, z1, z2, b1, b2, b3, b4, hsa1, hsa2, seval]) | (with_reducible (first | refine Qi ?_ | refine Qn ?_)) | ((with_reducible refine hK _ ?_); clear hK) | (refine Qf rfl ?_; simp only [↓reduceIte]))
     simp -implicitDefEqProofs only [Qqu, Qqy, List.mapM_nil, Option.pure_def, Qqu, QE, Ql, QqC]
     exact Xk hi hj hij (.keep (.tup _ fun x hx => by cases hx)) ⟨rfl, rfl⟩
    ·have hq1 : q1 = false := by rw [eq1, b1, b2]; rfl
     have hq3 : q3 = true := by rw [eq3, b2, b3, b4]; rfl
     rw [hq1] at c1
     rw [hq3] at c3
     refine Qe Tryz.func102 rfl Tryz.call102 Tryz.ntmps102 (congrArg Array.toList Tryz.results102) (by simp) ?_
     repeat (first | ((first | (with_reducible (first | refine Qa fun K E hK hE => ?_ | refine Qm fun K E hK hE => ?_ | refine Qq ct ?_ | refine Qu ca ?_ | refine Qu cc ?_ | refine FunW.ret (FunW.call c1) ?_ | refine FunW.ret (FunW.call c3) ?_ | refine Xi (FunW.call c2) YK ?_)) | (refine Qt (id := 4) [(0, 0), (1, 0), (2, 0), (3, 0), (4, 1), (5, 0), (6, 0), (7, 0), (8, 0), (9, 1), (10, 0), (11, 0)] mixed (by kernel_rfl) fun K hK => ?_) | (refine Qt (id := 6) [(0, 0), (1, 0), (2, 0), (3, 0), (4, 0), (5, 0), (6, 0), (7, 2)] mixed (by kernel_rfl) fun K hK => ?_)); simp -implicitDefEqProofs only [Qg, Qh, OpW, QI, aop, undef, AS.ev, Qy, AV.QpF, ↓reduceIte, Qp, QC, QD, Qz, aBin, ti9, ti29, ei29, ti41, Xs, Xg, Zf, XO, Qrf, QM, f1, f2, f3, f6, ho', hll, ga, gc, z0, z1, z2, b1, b3, b4, hsa1, hsa2, seval]) | (with_reducible (first | refine Qi ?_ | refine Qn ?_)) | ((with_reducible refine hK _ ?_); clear hK) | (refine Qf rfl ?_; simp only [↓reduceIte]))
     simp -implicitDefEqProofs only [Qqu, Qqy, List.mapM_nil, Option.pure_def, Qqu, QE, Ql, QqC]
     exact Xk hi hj hij (.keep (.tup _ fun x hx => by cases hx)) ⟨rfl, rfl⟩
  ·cases b3 : (oc != 0)
   ·have hq1 : q1 = false := by rw [eq1, b1, b2]; rfl
    have hq3 : q3 = false := by rw [eq3, b2, b3]; rfl
    rw [hq1] at c1
    rw [hq3] at c3
    refine Qe Tryz.func102 rfl Tryz.call102 Tryz.ntmps102 (congrArg Array.toList Tryz.results102) (by simp) ?_
    repeat (first | ((first | (with_reducible (first | refine Qa fun K E hK hE => ?_ | refine Qm fun K E hK hE => ?_ | refine Qq ct ?_ | refine Qu ca ?_ | refine Qu cc ?_ | refine FunW.ret (FunW.call c1) ?_ | refine FunW.ret (FunW.call c3) ?_ | refine Xi (FunW.call c2) YK ?_)) | (refine Qt (id := 4) [(0, 0), (1, 0), (2, 0), (3, 0), (4, 1), (5, 0), (6, 0), (7, 0), (8, 0), (9, 1), (10, 0), (11, 0)] mixed (by kernel_rfl) fun K hK => ?_) | (refine Qt (id := 6) [(0, 0), (1, 0), (2, 0), (3, 0), (4, 0), (5, 0), (6, 0), (7, 2)] mixed (by kernel_rfl) fun K hK => ?_)); simp -implicitDefEqProofs only [Qg, Qh, OpW, QI, aop, undef, AS.ev, Qy, AV.QpF, ↓reduceIte, Qp, QC, QD, Qz, aBin, ti9, ti29, ei29, ti41, Xs, Xg, Zf, XO, Qrf, QM, f1, f2, f3, f6, ho', hll, ga, gc, z0, z1, z2, b1, b3, hsa1, hsa2, seval]) | (with_reducible (first | refine Qi ?_ | refine Qn ?_)) | ((with_reducible refine hK _ ?_); clear hK) | (refine Qf rfl ?_; simp only [↓reduceIte]))
    simp -implicitDefEqProofs only [Qqu, Qqy, List.mapM_nil, Option.pure_def, Qqu, QE, Ql, QqC]
    exact Xk hi hj hij (.keep (.tup _ fun x hx => by cases hx)) ⟨rfl, rfl⟩
   ·cases b4 : (oc == 1)
    ·have hq1 : q1 = false := by rw [eq1, b1, b2]; rfl
     have hq3 : q3 = true := by rw [eq3, b2, b3, b4]; rfl
     rw [hq1] at c1
     rw [hq3] at c3
     refine Qe Tryz.func102 rfl Tryz.call102 Tryz.ntmps102 (congrArg Array.toList Tryz.results102) (by simp) ?_
     repeat (first | ((first | (with_reducible (first | refine Qa fun K E hK hE => ?_ | refine Qm fun K E hK hE => ?_ | refine Qq ct ?_ | refine Qu ca ?_ | refine Qu cc ?_ | refine FunW.ret (FunW.call c1) ?_ | refine FunW.ret (FunW.call c3) ?_ | refine Xi (FunW.call c2) YK ?_)) | (refine Qt (id := 4) [(0, 0), (1, 0), (2, 0), (3, 0), (4, 1), (5, 0), (6, 0), (7, 0), (8, 0), (9, 1), (10, 0), (11, 0)] mixed (by kernel_rfl) fun K hK => ?_) | (refine Qt (id := 6) [(0, 0), (1, 0), (2, 0), (3, 0), (4, 0), (5, 0), (6, 0), (7, 2)] mixed (by kernel_rfl) fun K hK => ?_)); simp -implicitDefEqProofs only [Qg, Qh, OpW, QI, aop, undef, AS.ev, Qy, AV.QpF, ↓reduceIte, Qp, QC, QD, Qz, aBin, ti9, ti29, ei29, ti41, Xs, Xg, Zf, XO, Qrf, QM, f1, f2, f3, f6, ho', hll, ga, gc, z0, z1, z2, b1, b2, b3, b4, hsa1, hsa2, seval]) | (with_reducible (first | refine Qi ?_ | refine Qn ?_)) | ((with_reducible refine hK _ ?_); clear hK) | (refine Qf rfl ?_; simp only [↓reduceIte]))
     simp -implicitDefEqProofs only [Qqu, Qqy, List.mapM_nil, Option.pure_def, Qqu, QE, Ql, QqC]
     exact Xk hi hj hij (.keep (.tup _ fun x hx => by cases hx)) ⟨rfl, rfl⟩
    ·have hq1 : q1 = false := by rw [eq1, b1, b2]; rfl
     have hq3 : q3 = true := by rw [eq3, b2, b3, b4]; rfl
     rw [hq1] at c1
     rw [hq3] at c3
     refine Qe Tryz.func102 rfl Tryz.call102 Tryz.ntmps102 (congrArg Array.toList Tryz.results102) (by simp) ?_
     repeat (first | ((first | (with_reducible (first | refine Qa fun K E hK hE => ?_ | refine Qm fun K E hK hE => ?_ | refine Qq ct ?_ | refine Qu ca ?_ | refine Qu cc ?_ | refine FunW.ret (FunW.call c1) ?_ | refine FunW.ret (FunW.call c3) ?_ | refine Xi (FunW.call c2) YK ?_)) | (refine Qt (id := 4) [(0, 0), (1, 0), (2, 0), (3, 0), (4, 1), (5, 0), (6, 0), (7, 0), (8, 0), (9, 1), (10, 0), (11, 0)] mixed (by kernel_rfl) fun K hK => ?_) | (refine Qt (id := 6) [(0, 0), (1, 0), (2, 0), (3, 0), (4, 0), (5, 0), (6, 0), (7, 2)] mixed (by kernel_rfl) fun K hK => ?_)); simp -implicitDefEqProofs only [Qg, Qh, OpW, QI, aop, undef, AS.ev, Qy, AV.QpF, ↓reduceIte, Qp, QC, QD, Qz, aBin, ti9, ti29, ei29, ti41, Xs, Xg, Zf, XO, Qrf, QM, f1, f2, f3, f6, ho', hll, ga, gc, z0, z1, z2, b1, b3, b4, hsa1, hsa2, seval]) | (with_reducible (first | refine Qi ?_ | refine Qn ?_)) | ((with_reducible refine hK _ ?_); clear hK) | (refine Qf rfl ?_; simp only [↓reduceIte]))
     simp -implicitDefEqProofs only [Qqu, Qqy, List.mapM_nil, Option.pure_def, Qqu, QE, Ql, QqC]
     exact Xk hi hj hij (.keep (.tup _ fun x hx => by cases hx)) ⟨rfl, rfl⟩
 ·cases b2 : (o == 2)
  ·cases b3 : (oc != 0)
   ·have hq1 : q1 = false := by rw [eq1, b1, b2]; rfl
    have hq3 : q3 = false := by rw [eq3, b2, b3]; rfl
    rw [hq1] at c1
    rw [hq3] at c3
    refine Qe Tryz.func102 rfl Tryz.call102 Tryz.ntmps102 (congrArg Array.toList Tryz.results102) (by simp) ?_
    repeat (first | ((first | (with_reducible (first | refine Qa fun K E hK hE => ?_ | refine Qm fun K E hK hE => ?_ | refine Qq ct ?_ | refine Qu ca ?_ | refine Qu cc ?_ | refine FunW.ret (FunW.call c1) ?_ | refine FunW.ret (FunW.call c3) ?_ | refine Xi (FunW.call c2) YK ?_)) | (refine Qt (id := 4) [(0, 0), (1, 0), (2, 0), (3, 0), (4, 1), (5, 0), (6, 0), (7, 0), (8, 0), (9, 1), (10, 0), (11, 0)] mixed (by kernel_rfl) fun K hK => ?_) | (refine Qt (id := 6) [(0, 0), (1, 0), (2, 0), (3, 0), (4, 0), (5, 0), (6, 0), (7, 2)] mixed (by kernel_rfl) fun K hK => ?_)); simp -implicitDefEqProofs only [Qg, Qh, OpW, QI, aop, undef, AS.ev, Qy, AV.QpF, ↓reduceIte, Qp, QC, QD, Qz, aBin, ti9, ti29, ei29, ti41, Xs, Xg, Zf, XO, Qrf, QM, f1, f2, f3, f6, ho', hll, ga, gc, z0, z1, z2, b1, b2, b3, hsa1, hsa2, seval]) | (with_reducible (first | refine Qi ?_ | refine Qn ?_)) | ((with_reducible refine hK _ ?_); clear hK) | (refine Qf rfl ?_; simp only [↓reduceIte]))
    simp -implicitDefEqProofs only [Qqu, Qqy, List.mapM_nil, Option.pure_def, Qqu, QE, Ql, QqC]
    exact Xk hi hj hij (.keep (.tup _ fun x hx => by cases hx)) ⟨rfl, rfl⟩
   ·cases b4 : (oc == 1)
    ·have hq1 : q1 = false := by rw [eq1, b1, b2]; rfl
     have hq3 : q3 = false := by rw [eq3, b2, b3, b4]; rfl
     rw [hq1] at c1
     rw [hq3] at c3
     refine Qe Tryz.func102 rfl Tryz.call102 Tryz.ntmps102 (congrArg Array.toList Tryz.results102) (by simp) ?_
     repeat (first | ((first | (with_reducible (first | refine Qa fun K E hK hE => ?_ | refine Qm fun K E hK hE => ?_ | refine Qq ct ?_ | refine Qu ca ?_ | refine Qu cc ?_ | refine FunW.ret (FunW.call c1) ?_ | refine FunW.ret (FunW.call c3) ?_ | refine Xi (FunW.call c2) YK ?_)) | (refine Qt (id := 4) [(0, 0), (1, 0), (2, 0), (3, 0), (4, 1), (5, 0), (6, 0), (7, 0), (8, 0), (9, 1), (10, 0), (11, 0)] mixed (by kernel_rfl) fun K hK => ?_) | (refine Qt (id := 6) [(0, 0), (1, 0), (2, 0), (3, 0), (4, 0), (5, 0), (6, 0), (7, 2)] mixed (by kernel_rfl) fun K hK => ?_)); simp -implicitDefEqProofs only [Qg, Qh, OpW, QI, aop, undef, AS.ev, Qy, AV.QpF, ↓reduceIte, Qp, QC, QD, Qz, aBin, ti9, ti29, ei29, ti41, Xs, Xg, Zf, XO, Qrf, QM, f1, f2, f3, f6, ho', hll, ga, gc, z0, z1, z2, b1, b2, b3, b4, hsa1, hsa2, seval]) | (with_reducible (first | refine Qi ?_ | refine Qn ?_)) | ((with_reducible refine hK _ ?_); clear hK) | (refine Qf rfl ?_; simp only [↓reduceIte]))
     simp -implicitDefEqProofs only [Qqu, Qqy, List.mapM_nil, Option.pure_def, Qqu, QE, Ql, QqC]
     exact Xk hi hj hij (.keep (.tup _ fun x hx => by cases hx)) ⟨rfl, rfl⟩
    ·have hq1 : q1 = false := by rw [eq1, b1, b2]; rfl
     have hq3 : q3 = true := by rw [eq3, b2, b3, b4]; rfl
     rw [hq1] at c1
     rw [hq3] at c3
     refine Qe Tryz.func102 rfl Tryz.call102 Tryz.ntmps102 (congrArg Array.toList Tryz.results102) (by simp) ?_
     repeat (first | ((first | (with_reducible (first | refine Qa fun K E hK hE => ?_ | refine Qm fun K E hK hE => ?_ | refine Qq ct ?_ | refine Qu ca ?_ | refine Qu cc ?_ | refine FunW.ret (FunW.call c1) ?_ | refine FunW.ret (FunW.call c3) ?_ | refine Xi (FunW.call c2) YK ?_)) | (refine Qt (id := 4) [(0, 0), (1, 0), (2, 0), (3, 0), (4, 1), (5, 0), (6, 0), (7, 0), (8, 0), (9, 1), (10, 0), (11, 0)] mixed (by kernel_rfl) fun K hK => ?_) | (refine Qt (id := 6) [(0, 0), (1, 0), (2, 0), (3, 0), (4, 0), (5, 0), (6, 0), (7, 2)] mixed (by kernel_rfl) fun K hK => ?_)); simp -implicitDefEqProofs only [Qg, Qh, OpW, QI, aop, undef, AS.ev, Qy, AV.QpF, ↓reduceIte, Qp, QC, QD, Qz, aBin, ti9, ti29, ei29, ti41, Xs, Xg, Zf, XO, Qrf, QM, f1, f2, f3, f6, ho', hll, ga, gc, z0, z1, z2, b1, b2, b3, b4, hsa1, hsa2, seval]) | (with_reducible (first | refine Qi ?_ | refine Qn ?_)) | ((with_reducible refine hK _ ?_); clear hK) | (refine Qf rfl ?_; simp only [↓reduceIte]))
     simp -implicitDefEqProofs only [Qqu, Qqy, List.mapM_nil, Option.pure_def, Qqu, QE, Ql, QqC]
     exact Xk hi hj hij (.keep (.tup _ fun x hx => by cases hx)) ⟨rfl, rfl⟩
  ·cases b3 : (oc != 0)
   ·have hq1 : q1 = true := by rw [eq1, b1, b2]; rfl
    have hq3 : q3 = false := by rw [eq3, b2, b3]; rfl
    rw [hq1] at c1
    rw [hq3] at c3
    refine Qe Tryz.func102 rfl Tryz.call102 Tryz.ntmps102 (congrArg Array.toList Tryz.results102) (by simp) ?_
    repeat (first | ((first | (with_reducible (first | refine Qa fun K E hK hE => ?_ | refine Qm fun K E hK hE => ?_ | refine Qq ct ?_ | refine Qu ca ?_ | refine Qu cc ?_ | refine FunW.ret (FunW.call c1) ?_ | refine FunW.ret (FunW.call c3) ?_ | refine Xi (FunW.call c2) YK ?_)) | (refine Qt (id := 4) [(0, 0), (1, 0), (2, 0), (3, 0), (4, 1), (5, 0), (6, 0), (7, 0), (8, 0), (9, 1), (10, 0), (11, 0)] mixed (by kernel_rfl) fun K hK => ?_) | (refine Qt (id := 6) [(0, 0), (1, 0), (2, 0), (3, 0), (4, 0), (5, 0), (6, 0), (7, 2)] mixed (by kernel_rfl) fun K hK => ?_)); simp -implicitDefEqProofs only [Qg, Qh, OpW, QI, aop, undef, AS.ev, Qy, AV.QpF, ↓reduceIte, Qp, QC, QD, Qz, aBin, ti9, ti29, ei29, ti41, Xs, Xg, Zf, XO, Qrf, QM, f1, f2, f3, f6, ho', hll, ga, gc, z0, z1, z2, b1, b2, b3, hsa1, hsa2, seval]) | (with_reducible (first | refine Qi ?_ | refine Qn ?_)) | ((with_reducible refine hK _ ?_); clear hK) | (refine Qf rfl ?_; simp only [↓reduceIte]))
    simp -implicitDefEqProofs only [Qqu, Qqy, List.mapM_nil, Option.pure_def, Qqu, QE, Ql, QqC]
    exact Xk hi hj hij (.keep (.tup _ fun x hx => by cases hx)) ⟨rfl, rfl⟩
   ·cases b4 : (oc == 1)
    ·have hq1 : q1 = true := by rw [eq1, b1, b2]; rfl
     have hq3 : q3 = true := by rw [eq3, b2, b3, b4]; rfl
     rw [hq1] at c1
     rw [hq3] at c3
     refine Qe Tryz.func102 rfl Tryz.call102 Tryz.ntmps102 (congrArg Array.toList Tryz.results102) (by simp) ?_
     repeat (first | ((first | (with_reducible (first | refine Qa fun K E hK hE => ?_ | refine Qm fun K E hK hE => ?_ | refine Qq ct ?_ | refine Qu ca ?_ | refine Qu cc ?_ | refine FunW.ret (FunW.call c1) ?_ | refine FunW.ret (FunW.call c3) ?_ | refine Xi (FunW.call c2) YK ?_)) | (refine Qt (id := 4) [(0, 0), (1, 0), (2, 0), (3, 0), (4, 1), (5, 0), (6, 0), (7, 0), (8, 0), (9, 1), (10, 0), (11, 0)] mixed (by kernel_rfl) fun K hK => ?_) | (refine Qt (id := 6) [(0, 0), (1, 0), (2, 0), (3, 0), (4, 0), (5, 0), (6, 0), (7, 2)] mixed (by kernel_rfl) fun K hK => ?_)); simp -implicitDefEqProofs only [Qg, Qh, OpW, QI, aop, undef, AS.ev, Qy, AV.QpF, ↓reduceIte, Qp, QC, QD, Qz, aBin, ti9, ti29, ei29, ti41, Xs, Xg, Zf, XO, Qrf, QM, f1, f2, f3, f6, ho', hll, ga, gc, z0, z1, z2, b1, b2, b3, b4, hsa1, hsa2, seval]) | (with_reducible (first | refine Qi ?_ | refine Qn ?_)) | ((with_reducible refine hK _ ?_); clear hK) | (refine Qf rfl ?_; simp only [↓reduceIte]))
     simp -implicitDefEqProofs only [Qqu, Qqy, List.mapM_nil, Option.pure_def, Qqu, QE, Ql, QqC]
     exact Xk hi hj hij (.keep (.tup _ fun x hx => by cases hx)) ⟨rfl, rfl⟩
    ·have hq1 : q1 = true := by rw [eq1, b1, b2]; rfl
     have hq3 : q3 = true := by rw [eq3, b2, b3, b4]; rfl
     rw [hq1] at c1
     rw [hq3] at c3
     refine Qe Tryz.func102 rfl Tryz.call102 Tryz.ntmps102 (congrArg Array.toList Tryz.results102) (by simp) ?_
     repeat (first | ((first | (with_reducible (first | refine Qa fun K E hK hE => ?_ | refine Qm fun K E hK hE => ?_ | refine Qq ct ?_ | refine Qu ca ?_ | refine Qu cc ?_ | refine FunW.ret (FunW.call c1) ?_ | refine FunW.ret (FunW.call c3) ?_ | refine Xi (FunW.call c2) YK ?_)) | (refine Qt (id := 4) [(0, 0), (1, 0), (2, 0), (3, 0), (4, 1), (5, 0), (6, 0), (7, 0), (8, 0), (9, 1), (10, 0), (11, 0)] mixed (by kernel_rfl) fun K hK => ?_) | (refine Qt (id := 6) [(0, 0), (1, 0), (2, 0), (3, 0), (4, 0), (5, 0), (6, 0), (7, 2)] mixed (by kernel_rfl) fun K hK => ?_)); simp -implicitDefEqProofs only [Qg, Qh, OpW, QI, aop, undef, AS.ev, Qy, AV.QpF, ↓reduceIte, Qp, QC, QD, Qz, aBin, ti9, ti29, ei29, ti41, Xs, Xg, Zf, XO, Qrf, QM, f1, f2, f3, f6, ho', hll, ga, gc, z0, z1, z2, b1, b2, b3, b4, hsa1, hsa2, seval]) | (with_reducible (first | refine Qi ?_ | refine Qn ?_)) | ((with_reducible refine hK _ ?_); clear hK) | (refine Qf rfl ?_; simp only [↓reduceIte]))
     simp -implicitDefEqProofs only [Qqu, Qqy, List.mapM_nil, Option.pure_def, Qqu, QE, Ql, QqC]
     exact Xk hi hj hij (.keep (.tup _ fun x hx => by cases hx)) ⟨rfl, rfl⟩
end Go.Proofs.YtniljpjjnmkoaaaGreatDoor.Ab
set_option maxRecDepth 4000
namespace Go.Proofs.YtniljpjjnmkoaaaGreatDoor.Ab
open Go.Proofs
theorem Qf7 (h : AH) (_ : 3 = 3) : Keep h h := Keep.refl h
theorem QlM {h : AH} {i j : Nat} (hi : i < h.length) (hj : j < h.length) (hij : i ≠ j) (t : T) (ho : t.oper = 0) (hl : t.args.length ≤ 1000000)
  (l0 : t.kind = 0 → -9223372036854775807 ≤ t.int ∧ t.int ≤ 9223372036854775807) (l1 : t.kind = 1 → 0 ≤ t.int ∧ t.int ≤ 1048576)
  (ih : ∀ a ∈ t.args, TIh i j a) (hG : Xj (HB h i j true (.empty))) (u : Bool) (tx : ByteArray)
  (s : ByteArray) (es : s = if t.kind = 0 then decZ t.int else if t.kind = 1 then vOf (decN t.int.toNat) else funT t.name (txts t.args)) (hs : tx.size + s.size ≤ 140737488355328) :
  Wri 102 [.ptr i 0 0, t.av] h i j u tx s := by
 have eav : t.av = .agg [.i t.kind, .i t.int, .v (.string t.name), .sl 4 (avs t.args) none] := by cases t; rfl
 obtain ⟨L, hL⟩ : ∃ L : AH, L = [AB.cells 129 1 [.ptr i 0 0], AB.cells 41 4 [t.av]] := ⟨_, rfl⟩
 have hlL : (h ++ L).length = h.length + 2 := by rw [hL]; simp
 have hi' : i < (h ++ L).length := by omega
 have hj' : j < (h ++ L).length := by omega
 have gapp := fun (u : Bool) (tx : ByteArray) (L : AH) => Qi2 (h := h) (i := i) (j := j) hi hj u tx L
 have hG' : Xj (HB (h ++ L) i j true (.empty)) := by rw [gapp]; exact HasG.app hG _
 have hG2 : Xj (HB (h ++ L) i j u tx) := QoS hij hG'
 have ct := QaF t (by simp only [maxLen]; omega)
 rw [ho, eav] at ct
 have f1 := Qej h i j
 have f2 := fun u tx L => QdH h i j u tx L
 have f3 := fun u tx L => QgW h i j u tx L
 have f6 := fun u tx L => QcK (h := h) hi hij u tx L
 by_cases k0 : t.kind = 0
 ·rw [if_pos k0] at es
  rw [k0] at eav ct
  have c1 := QjH t.int (by have := l0 k0; omega) (l0 k0).2 _ hG2
  have c2 := wstr (h := h ++ L) hi' hj' hij u tx s hs
  rw [es] at c2
  rw [gapp, hL, eav] at c1
  rw [gapp, gapp, hL, eav] at c2
  rw [eav, es]
  refine Qe Tryz.func102 rfl Tryz.call102 Tryz.ntmps102 (congrArg Array.toList Tryz.results102) (by simp) ?_
  repeat (first | ((first | (with_reducible (first | refine Qa fun K E hK hE => ?_ | refine Qm fun K E hK hE => ?_ | refine Qq ct ?_ | refine Qu ct ?_ | refine Xi (FunW.call c1) (Qf7 _) ?_ | refine Xi (FunW.call c2) YK ?_)) | (refine Qt (id := 4) [(0, 0), (1, 0), (2, 0), (3, 0), (4, 1), (5, 0), (6, 0), (7, 0), (8, 0), (9, 1), (10, 0), (11, 0)] mixed (by kernel_rfl) fun K hK => ?_) | (refine QH (id := 4) [(0, 0), (1, 0), (2, 0), (3, 0), (4, 1), (5, 0), (6, 0), (7, 0), (8, 0), (9, 1), (10, 0), (11, 0)] mixed (by kernel_rfl) fun K hK => ?_) | (refine Qt (id := 6) [(0, 0), (1, 0), (2, 0), (3, 0), (4, 0), (5, 0), (6, 0), (7, 2)] mixed (by kernel_rfl) fun K hK => ?_) | (refine QH (id := 6) [(0, 0), (1, 0), (2, 0), (3, 0), (4, 0), (5, 0), (6, 0), (7, 2)] mixed (by kernel_rfl) fun K hK => ?_) | (refine Qt (id := 9) [(0, 0), (1, 0), (2, 0), (3, 0), (4, 0), (5, 3), (6, 2)] mixed (by kernel_rfl) fun K hK => ?_) | (refine QH (id := 9) [(0, 0), (1, 0), (2, 0), (3, 0), (4, 0), (5, 3), (6, 2)] mixed (by kernel_rfl) fun K hK => ?_) | (refine Qt (id := 11) [(0, 0), (1, 0), (2, 0), (3, 0), (4, 0), (5, 3), (6, 2)] mixed (by kernel_rfl) fun K hK => ?_) | (refine QH (id := 11) [(0, 0), (1, 0), (2, 0), (3, 0), (4, 0), (5, 3), (6, 2)] mixed (by kernel_rfl) fun K hK => ?_)); simp -implicitDefEqProofs only [Qg, Qh, OpW, QI, aop, undef, AS.ev, Qy, AV.QpF, ↓reduceIte, Qp, QC, QD, aBin, ti3, ti41, Q2, Xo, Zf, XO, QM, f1, f2, f3, f6, seval]) | (with_reducible (first | refine Qc fun K hK => ?_ | refine Qi ?_ | refine Qj ?_ | refine QV ?_ | refine QU ?_ | refine Qk ?_ | refine QB ?_ | refine Qb ?_ | refine Qo ?_ | refine Qw ?_ | refine Qn ?_ | refine Qs ?_ | refine Qv ?_ | refine QO rfl ?_)) | (with_reducible (first | refine hK _ ?_ | (clear hK; refine hK _ ?_) | (clear hK; clear hK; refine hK _ ?_) | (clear hK; clear hK; clear hK; refine hK _ ?_)); clear hK) | (refine Qf rfl ?_; simp only [↓reduceIte, Qqw]) | (intro (b : Bool); cases b))
  simp -implicitDefEqProofs only [Qqu, Qqy, List.mapM_nil, Option.pure_def, Qqu, QE, Ql, QqC]
  exact Xk hi hj hij (.keep (.tup _ fun x hx => by cases hx)) ⟨rfl, rfl⟩
 ·rw [if_neg k0] at es
  have m0 : (t.kind == 0) = false := by simpa using k0
  by_cases k1 : t.kind = 1
  ·rw [if_pos k1] at es
   rw [k1] at eav ct
   have z1 : ((1 : Int) == 0) = false := by decide
   have en : t.int = (t.int.toNat : Int) := by have := l1 k1; omega
   have c1 := Qgy t.int.toNat (by have := l1 k1; omega) _ hG2
   rw [← en] at c1
   have c2 := wstr (h := h ++ L) hi' hj' hij u tx s hs
   rw [es] at c2
   rw [gapp, hL, eav] at c1
   rw [gapp, gapp, hL, eav] at c2
   rw [eav, es]
   refine Qe Tryz.func102 rfl Tryz.call102 Tryz.ntmps102 (congrArg Array.toList Tryz.results102) (by simp) ?_
   repeat (first | ((first | (with_reducible (first | refine Qa fun K E hK hE => ?_ | refine Qm fun K E hK hE => ?_ | refine Qq ct ?_ | refine Qu ct ?_ | refine Xi (FunW.call c1) (Qf7 _) ?_ | refine Xi (FunW.call c2) YK ?_)) | (refine Qt (id := 4) [(0, 0), (1, 0), (2, 0), (3, 0), (4, 1), (5, 0), (6, 0), (7, 0), (8, 0), (9, 1), (10, 0), (11, 0)] mixed (by kernel_rfl) fun K hK => ?_) | (refine QH (id := 4) [(0, 0), (1, 0), (2, 0), (3, 0), (4, 1), (5, 0), (6, 0), (7, 0), (8, 0), (9, 1), (10, 0), (11, 0)] mixed (by kernel_rfl) fun K hK => ?_) | (refine Qt (id := 6) [(0, 0), (1, 0), (2, 0), (3, 0), (4, 0), (5, 0), (6, 0), (7, 2)] mixed (by kernel_rfl) fun K hK => ?_) | (refine QH (id := 6) [(0, 0), (1, 0), (2, 0), (3, 0), (4, 0), (5, 0), (6, 0), (7, 2)] mixed (by kernel_rfl) fun K hK => ?_) | (refine Qt (id := 9) [(0, 0), (1, 0), (2, 0), (3, 0), (4, 0), (5, 3), (6, 2)] mixed (by kernel_rfl) fun K hK => ?_) | (refine QH (id := 9) [(0, 0), (1, 0), (2, 0), (3, 0), (4, 0), (5, 3), (6, 2)] mixed (by kernel_rfl) fun K hK => ?_) | (refine Qt (id := 11) [(0, 0), (1, 0), (2, 0), (3, 0), (4, 0), (5, 3), (6, 2)] mixed (by kernel_rfl) fun K hK => ?_) | (refine QH (id := 11) [(0, 0), (1, 0), (2, 0), (3, 0), (4, 0), (5, 3), (6, 2)] mixed (by kernel_rfl) fun K hK => ?_)); simp -implicitDefEqProofs only [Qg, Qh, OpW, QI, aop, undef, AS.ev, Qy, AV.QpF, ↓reduceIte, Qp, QC, QD, aBin, ti3, ti41, Q2, Xo, Zf, XO, QM, f1, f2, f3, f6, z1, seval]) | (with_reducible (first | refine Qc fun K hK => ?_ | refine Qi ?_ | refine Qj ?_ | refine QV ?_ | refine QU ?_ | refine Qk ?_ | refine QB ?_ | refine Qb ?_ | refine Qo ?_ | refine Qw ?_ | refine Qn ?_ | refine Qs ?_ | refine Qv ?_ | refine QO rfl ?_)) | (with_reducible (first | refine hK _ ?_ | (clear hK; refine hK _ ?_) | (clear hK; clear hK; refine hK _ ?_) | (clear hK; clear hK; clear hK; refine hK _ ?_)); clear hK) | (refine Qf rfl ?_; simp only [↓reduceIte, Qqw]) | (intro (b : Bool); cases b))
   simp -implicitDefEqProofs only [Qqu, Qqy, List.mapM_nil, Option.pure_def, Qqu, QE, Ql, QqC]
   exact Xk hi hj hij (.keep (.tup _ fun x hx => by cases hx)) ⟨rfl, rfl⟩
  ·rw [if_neg k1] at es
   have m1 : (t.kind == 1) = false := by simpa using k1
   have c1 := Qdz (h := h ++ L) hi' hj' hij t.args hl t.name (fun a ha h hi hj hG tx hs => ih a ha h hi hj hG true tx hs) hG' u tx (by rw [← es]; exact hs)
   rw [Wri, ← es, gapp, gapp, hL, eav] at c1
   rw [eav]
   refine Qe Tryz.func102 rfl Tryz.call102 Tryz.ntmps102 (congrArg Array.toList Tryz.results102) (by simp) ?_
   repeat (first | ((first | (with_reducible (first | refine Qa fun K E hK hE => ?_ | refine Qm fun K E hK hE => ?_ | refine Qq ct ?_ | refine Qu ct ?_ | refine FunW.ret (FunW.call c1) ?_)) | (refine Qt (id := 4) [(0, 0), (1, 0), (2, 0), (3, 0), (4, 1), (5, 0), (6, 0), (7, 0), (8, 0), (9, 1), (10, 0), (11, 0)] mixed (by kernel_rfl) fun K hK => ?_) | (refine QH (id := 4) [(0, 0), (1, 0), (2, 0), (3, 0), (4, 1), (5, 0), (6, 0), (7, 0), (8, 0), (9, 1), (10, 0), (11, 0)] mixed (by kernel_rfl) fun K hK => ?_) | (refine Qt (id := 6) [(0, 0), (1, 0), (2, 0), (3, 0), (4, 0), (5, 0), (6, 0), (7, 2)] mixed (by kernel_rfl) fun K hK => ?_) | (refine QH (id := 6) [(0, 0), (1, 0), (2, 0), (3, 0), (4, 0), (5, 0), (6, 0), (7, 2)] mixed (by kernel_rfl) fun K hK => ?_) | (refine Qt (id := 9) [(0, 0), (1, 0), (2, 0), (3, 0), (4, 0), (5, 3), (6, 2)] mixed (by kernel_rfl) fun K hK => ?_) | (refine QH (id := 9) [(0, 0), (1, 0), (2, 0), (3, 0), (4, 0), (5, 3), (6, 2)] mixed (by kernel_rfl) fun K hK => ?_) | (refine Qt (id := 11) [(0, 0), (1, 0), (2, 0), (3, 0), (4, 0), (5, 3), (6, 2)] mixed (by kernel_rfl) fun K hK => ?_) | (refine QH (id := 11) [(0, 0), (1, 0), (2, 0), (3, 0), (4, 0), (5, 3), (6, 2)] mixed (by kernel_rfl) fun K hK => ?_)); simp -implicitDefEqProofs only [Qg, Qh, OpW, QI, aop, undef, AS.ev, Qy, AV.QpF, ↓reduceIte, Qp, QC, QD, aBin, ti3, ti9, ti29, ti41, Q2, Xs, Xg, Zf, f1, f2, f3, m0, m1, seval]) | (with_reducible (first | refine Qc fun K hK => ?_ | refine Qi ?_ | refine Qj ?_ | refine QV ?_ | refine QU ?_ | refine Qk ?_ | refine QB ?_ | refine Qb ?_ | refine Qo ?_ | refine Qw ?_ | refine Qn ?_ | refine Qs ?_ | refine Qv ?_ | refine QO rfl ?_)) | (with_reducible (first | refine hK _ ?_ | (clear hK; refine hK _ ?_) | (clear hK; clear hK; refine hK _ ?_) | (clear hK; clear hK; clear hK; refine hK _ ?_)); clear hK) | (refine Qf rfl ?_; simp only [↓reduceIte, Qqw]) | (intro (b : Bool); cases b))
   simp -implicitDefEqProofs only [Qqu, Qqy, List.mapM_nil, Option.pure_def, Qqu, QE, Ql, QqC]
   exact Xk hi hj hij (.keep (.tup _ fun x hx => by cases hx)) ⟨rfl, rfl⟩
mutual
theorem T.QpZ : ∀ (t : T), t.lex → ∀ (i j : Nat), i ≠ j → TIh i j t
 | .mk k x n l, hx, i, j, hij => fun h hi hj hG u tx hs => by
  obtain ⟨l0, l1, hl, hn, hll⟩ := hx
  have ih := Qfi l hll i j hij
  by_cases ho : (T.mk k x n l).oper = 0
  ·have es : (T.mk k x n l).txt = if k = 0 then decZ x else if k = 1 then vOf (decN x.toNat) else funT n (txts l) := by rw [T.txt, if_neg (by simpa using ho)]
   exact QlM hi hj hij (T.mk k x n l) ho hl l0 l1 ih hG u tx _ es hs
  ·have hk : k = 2 ∧ l.length = 2 ∧ ofB n ≠ 0 := by
    simp only [T.oper] at ho
    split at ho
    ·exact absurd rfl ho
    ·rename_i hq
     exact ⟨Decidable.byContradiction fun e => hq (.inl e), Decidable.byContradiction fun e => hq (.inr e), ho⟩
   obtain ⟨rfl, h2, hon⟩ := hk
   match l, h2, hll, ih with
   | [a, c], _, hll, ih =>
    have et : (T.mk 2 x n [a, c]).txt = binT (ofB n) n a.oper c.oper a.txt c.txt := by rw [T.txt, if_pos ho]; rfl
    rw [et] at hs ⊢
    have la : a.args.length ≤ 1000000 := by cases a; exact hll.1.2.2.1
    have lc : c.args.length ≤ 1000000 := by cases c; exact hll.2.1.2.2.1
    exact Qm4 hi hj hij n x a c hn hon la lc (ih a (by simp)) (ih c (by simp)) hG u tx hs
theorem Qfi : ∀ (l : List T), lexL l → ∀ (i j : Nat), i ≠ j → ∀ a ∈ l, TIh i j a
 | [], _, _, _, _, a, ha => by cases ha
 | t :: l, hx, i, j, hij, a, ha => by
  have h1 := T.QpZ t hx.1 i j hij
  have h2 := Qfi l hx.2 i j hij
  rcases List.mem_cons.1 ha with e | e
  ·rw [e]; exact h1
  ·exact h2 a e
end
end Go.Proofs.YtniljpjjnmkoaaaGreatDoor.Ab
namespace Go.Proofs.YtniljpjjnmkoaaaGreatDoor.Ab
theorem Qou {c : Cx} (hst : St c) (id ty e : Nat) (p : Value) (hb : c.h[id]? = some (.cells ty 2 [.agg [.v p, .v (.slice none 0 0)]])) :
  ∃ c2, Ev c c2 ∧ St c2 ∧ c2.h = (c.h ++ [AB.grow e 1 0]).set id (AB.cells ty 2 [.agg [.v p, .sl 1 [] (some c.h.length)]]) ∧ c2.w = c.w := by
 obtain ⟨hev, hst1⟩ := Qgb hst e 1
 have hlt := QA hb
 have hb1 : (c.add c.w (.grow e 1 0) none).h[id]? = some (.cells ty 2 [.agg [.v p, .v (.slice none 0 0)]]) := by
  simp only [Cx.add]; rw [List.getElem?_append_left hlt]; exact hb
 obtain ⟨B, cur, hρ, hcur, h3, h4⟩ := hst1.blocks id _ hb1
 have hev2 := Ev.turn (b' := .cells ty 2 [.agg [.v p, .sl 1 [] (some c.h.length)]]) hst1 hb1 rfl hρ (w := c.w) rfl rfl rfl rfl (fun _ _ => rfl) (.inr ⟨_, rfl, rfl, fun _ cur _ h => ⟨cur, h, rfl⟩⟩)
 have htok : ((c.add c.w (.grow e 1 0) none).turn c.w id (.cells ty 2 [.agg [.v p, .sl 1 [] (some c.h.length)]])).tokNil c.h.length 1 := by
  refine ⟨by simp [Cx.turn, Cx.add], fun e2 s2 n2 hg2 => ?_⟩
  simp only [Cx.turn, Cx.add] at hg2
  rw [List.getElem?_set_ne (by omega), List.getElem?_append_right (Nat.le_refl _), Nat.sub_self] at hg2
  simp at hg2
  exact ⟨hg2.2.1.symm, fun _ => by simp [Cx.turn, Cx.add]⟩
 have hfl : flat [AV.agg [.v p, .v (.slice none 0 0)]] = [.v p, .v (.slice none 0 0)] := rfl
 have hst2 := St.turn (b' := .cells ty 2 [.agg [.v p, .sl 1 [] (some c.h.length)]]) hst1 hb1 rfl hρ (w := c.w) (fun _ _ => rfl) hev2 ⟨B, cur, hρ, hcur, (by simp [AV.cells]), by
  intro j a' hj
  have hj' : [AV.v p, .sl 1 [] (some c.h.length)][j]? = some a' := hj
  match j with
  | 0 =>
   simp only [Qqs, Qqy] at hj'
   subst hj'
   obtain ⟨u, g1, g2, g3⟩ := h4 0 (.v p) (by rw [hfl]; rfl)
   exact ⟨u, g1, g2, g3.ev hst1 hev2⟩
  | 1 =>
   simp only [Qqt, Qqs, Qqy] at hj'
   subst hj'
   obtain ⟨u, g1, g2, g3⟩ := h4 1 (.v (.slice none 0 0)) (by rw [hfl]; rfl)
   cases g3
   exact ⟨_, g1, g2, .slnil _ _ fun b hb => by cases hb; exact htok⟩
  | j + 2 => simp at hj'⟩
 exact ⟨_, Ev.trans hst hev hev2, hst2, rfl, rfl⟩
theorem Qh1 {P : Program} {fv : AV} {args : List AV} {h : AH} {Q : AOut → AH → Prop} (id ty e : Nat) (p : Value) (hb : h[id]? = some (.cells ty 2 [.agg [.v p, .v (.slice none 0 0)]]))
  (H : FunW P fv args ((h ++ [AB.grow e 1 0]).set id (AB.cells ty 2 [.agg [.v p, .sl 1 [] (some h.length)]])) Q) : FunW P fv args h Q := by
 intro F n c v vals hF hs hh hv hvs o a next Qx h1 h2
 subst hh
 obtain ⟨c2, hev, hst2, hh2, hw⟩ := Qou hs id ty e p hb
 rw [← hw]
 exact H F n c2 v vals hF hst2 hh2 (hv.ev hs hev) (hvs.ev hs hev) o a next Qx (fun r c' x hQ he => h1 r c' x hQ (Ev.trans hs hev he)) (fun r c' x hQ he => h2 r c' x hQ (Ev.trans hs hev he))
end Go.Proofs.YtniljpjjnmkoaaaGreatDoor.Ab
set_option maxRecDepth 4000
namespace Go.Proofs.YtniljpjjnmkoaaaGreatDoor.Ab
open Go.Proofs
theorem Qlz (fv : AV) : Pure Tryz.prog 100 [.b false, fv] (.v (.string { data := #[] })) := by
 intro h
 refine Qe Tryz.func100 rfl Tryz.call100 Tryz.ntmps100 (congrArg Array.toList Tryz.results100) (by simp) ?_
 repeat (first | ((first | (with_reducible (first | refine Qa fun K E hK hE => ?_ | refine Qm fun K E hK hE => ?_))); simp -implicitDefEqProofs only [Qg, Qh, OpW, aop, undef, AS.ev, Qy, ↓reduceIte, seval]) | (with_reducible (first | refine Qc fun K hK => ?_ | refine Qi ?_ | refine Qj ?_ | refine QV ?_ | refine QU ?_ | refine Qk ?_ | refine QB ?_ | refine Qb ?_ | refine Qo ?_ | refine Qw ?_ | refine Qn ?_ | refine Qs ?_ | refine Qv ?_ | refine QO rfl ?_)) | (with_reducible (first | refine hK _ ?_ | (clear hK; refine hK _ ?_) | (clear hK; clear hK; refine hK _ ?_) | (clear hK; clear hK; clear hK; refine hK _ ?_)); clear hK) | (refine Qf rfl ?_; simp only [↓reduceIte]) | (intro (b : Bool); cases b))
 simp only [QE, Ql, Qr, upd, ↓reduceIte, Qqy, QqC]; first | refine Qd (htake _ _) (.keep (.v _)) ⟨rfl, rfl⟩ | refine Qd List.take_length (.keep (.v _)) ⟨rfl, rfl⟩
theorem Qi7 (fv r : AV) (s : ByteArray) (h : AH) (h0 : 0 < s.size) (hs : s.size ≤ 140737488355328)
  (hw : FunW Tryz.prog fv [.ptr h.length 0 0] (HB (h ++ [AB.dead, AB.dead]) h.length (h.length + 1) false .empty) fun o h' => o = .ret r ∧ h' = HB (h ++ [AB.dead, AB.dead]) h.length (h.length + 1) true s) :
  Q4 Tryz.prog 100 [.b true, fv] h fun o h' => o = .ret (.v (.string s)) ∧ h' = h := by
 have hi : h.length < (h ++ [AB.dead, AB.dead]).length := by simp
 have hj : h.length + 1 < (h ++ [AB.dead, AB.dead]).length := by simp
 have e0 : HB (h ++ [AB.dead, AB.dead]) h.length (h.length + 1) false .empty = h ++ [AB.cells 162 2 [.agg [.v (.pointer none), .sl 1 [] (some (h.length + 1))]], AB.grow 5 1 0] := by
  simp [HB, hs2, bw]; rfl
 have e1 : HB (h ++ [AB.dead, AB.dead]) h.length (h.length + 1) true s = h ++ [bw 162 h.length (h.length + 1) true s, AB.grow 5 1 s.size] := by
  simp [HB, hs2]
 have c1 := QjD (ty := 162) (i := h.length) (j := h.length + 1) (by omega) s h0 hs (h ++ [AB.dead, AB.dead]) hi hj
 have e2 : hs2 (h ++ [AB.dead, AB.dead]) h.length (bw 162 h.length (h.length + 1) true s) (h.length + 1) .gone = h ++ [bw 162 h.length (h.length + 1) true s, AB.gone] := by
  simp [hs2]
 rw [e2, ← HB, e1] at c1
 rw [e1, e0] at hw
 refine Qe Tryz.func100 rfl Tryz.call100 Tryz.ntmps100 (congrArg Array.toList Tryz.results100) (by simp) ?_
 repeat (first | ((first | (with_reducible (first | refine Qa fun K E hK hE => ?_ | refine Qm fun K E hK hE => ?_))); simp -implicitDefEqProofs only [Qg, Qh, OpW, aop, undef, AS.ev, Qy, AV.QpF, ↓reduceIte, Qpm, seval]) | (with_reducible (first | refine Qc fun K hK => ?_ | refine Qi ?_ | refine Qj ?_ | refine QV ?_ | refine QU ?_ | refine Qk ?_ | refine QB ?_ | refine Qb ?_ | refine Qo ?_ | refine Qw ?_ | refine Qn ?_ | refine Qs ?_ | refine Qv ?_ | refine QO rfl ?_)) | (with_reducible (first | refine hK _ ?_ | (clear hK; refine hK _ ?_) | (clear hK; clear hK; refine hK _ ?_) | (clear hK; clear hK; clear hK; refine hK _ ?_)); clear hK) | (refine Qf rfl ?_; simp only [↓reduceIte, Qqw]) | (intro (b : Bool); cases b))
 refine Qh1 h.length 162 5 (.pointer none) (by simp) ?_
 refine FunW.ret (h' := h ++ [bw 162 h.length (h.length + 1) true s, AB.grow 5 1 s.size]) (r := r) (by simpa using hw) ?_
 rw [bw1] at c1 ⊢
 simp -implicitDefEqProofs only [XI, QI, XH, Nat.reduceLT]
 repeat (first | ((first | (with_reducible (first | refine Qa fun K E hK hE => ?_ | refine Qm fun K E hK hE => ?_ | refine FunW.ret (FunW.call c1) ?_))); simp -implicitDefEqProofs only [Qg, Qh, OpW, QI, aop, AS.ev, ↓reduceIte, Qp, XO, seval]) | (with_reducible (first | refine Qc fun K hK => ?_ | refine Qi ?_ | refine Qj ?_ | refine QV ?_ | refine QU ?_ | refine Qk ?_ | refine QB ?_ | refine Qb ?_ | refine Qo ?_ | refine Qw ?_ | refine Qn ?_ | refine Qs ?_ | refine Qv ?_ | refine QO rfl ?_)) | (with_reducible (first | refine hK _ ?_ | (clear hK; refine hK _ ?_) | (clear hK; clear hK; refine hK _ ?_) | (clear hK; clear hK; clear hK; refine hK _ ?_)); clear hK) | (refine Qf rfl ?_; simp only [↓reduceIte, Qqw]) | (intro (b : Bool); cases b))
 simp only [QE, Ql, Qr, upd, ↓reduceIte, Qqy, QqC]; first | refine Qd (htake _ _) (.keep (.v _)) ⟨rfl, rfl⟩ | refine Qd List.take_length (.keep (.v _)) ⟨rfl, rfl⟩
end Go.Proofs.YtniljpjjnmkoaaaGreatDoor.Ab
set_option maxRecDepth 4000
namespace Go.Proofs.YtniljpjjnmkoaaaGreatDoor.Ab
open Go.Proofs
theorem QdY {s : ByteArray} (h : XY s = true) : 1 ≤ s.size ∧ s.size ≤ 40 := by
 rw [XY, Bool.and_eq_true, decide_eq_true_eq] at h
 exact ⟨h.1.1, h.1.2.1⟩
theorem QfG (b : Bool) (x : ByteArray) : (encB b x).size ≤ x.size + 2 := by
 rw [encB]; split
 ·rw [QG, QG]; have : lpa.size = 1 := rfl; have : rpa.size = 1 := rfl; omega
 ·omega
theorem QiV (l : List ByteArray) : ∀ f, (YN f l).size ≤ (l.map fun x => x.size + 2).sum := by
 induction l with
 | nil => intro f; rw [YN]; simp
 | cons x l ih =>
  intro f
  have h1 := ih false
  rw [QjZ f _ x l rfl, List.map_cons, List.sum_cons]
  split <;> omega
theorem QmF (t : ByteArray) : (vOf t).size = t.size + 1 := by rw [vOf, QG]; have : ({ data := #[86] } : ByteArray).size = 1 := rfl; omega
theorem YT {s : ByteArray} (h : Y6 s = true) : s.size = 0 := by
 rw [Y6, QbV, decide_eq_true_eq] at h
 exact h
mutual
theorem T.QpX : ∀ (t : T) (b d : Int), (t.run b d).1 = true → t.lex ∧ (t.txt.size : Int) + 4 ≤ 60 * (b - (t.run b d).2) ∧ 0 < t.txt.size ∧ (t.run b d).2 ≤ b
 | .mk k i n l, b, d, h => by
  rw [T.run] at h ⊢
  split at h
  ·cases h
  rename_i h1
  rw [if_neg h1]
  split at h
  ·rename_i k0
   subst k0
   rw [if_pos rfl]
   simp only [Bool.and_eq_true, decide_eq_true_eq] at h
   obtain ⟨⟨hr, hn⟩, hl⟩ := h
   have hl' : l = [] := by simpa using hl
   subst hl'
   have hn' := YT hn
   have hz := Qlb i (by omega) (by omega)
   have hp := QmG i
   have et : (T.mk 0 i n []).txt = decZ i := by rw [T.txt, if_neg (by simp [T.oper, T.kind]), if_pos rfl]
   rw [et]
   refine ⟨⟨fun _ => by omega, fun e => (by cases e), by simp, by omega, trivial⟩, ?_, hp, ?_⟩ <;> simp only <;> omega
  ·rename_i k0
   rw [if_neg k0]
   split at h
   ·rename_i k1
    subst k1
    rw [if_pos rfl]
    simp only [Bool.and_eq_true, decide_eq_true_eq] at h
    obtain ⟨⟨hr, hn⟩, hl⟩ := h
    have hl' : l = [] := by simpa using hl
    subst hl'
    have hn' := YT hn
    have hz := Qfc (n := i.toNat) (by omega)
    have et : (T.mk 1 i n []).txt = vOf (decN i.toNat) := by rw [T.txt, if_neg (by simp [T.oper, T.kind]), if_neg k0, if_pos rfl]
    rw [et, QmF]
    refine ⟨⟨fun e => (by cases e), fun _ => hr, by simp, by omega, trivial⟩, ?_, by omega, ?_⟩ <;> simp only <;> omega
   ·rename_i k1
    rw [if_neg k1]
    split at h
    ·rename_i k2
     subst k2
     rw [if_pos rfl]
     split at h
     ·cases h
     rename_i h3
     rw [if_neg h3]
     split at h
     ·cases h
     rename_i h4
     rw [if_neg h4]
     have hL := QfU l (b - 1) (d - 1) h
     have hll : l.length ≤ 6 := by omega
     have hns : 1 ≤ n.size ∧ n.size ≤ 40 := by
      simp only [Bool.not_eq_true', Bool.and_eq_true, not_and, Bool.not_eq_false, decide_eq_true_eq] at h4
      cases hrb : XY n with
      | true => exact QdY hrb
      | false =>
       rw [hrb] at h4
       have hop : opB n = true := by
        cases ho : opB n with
        | true => rfl
        | false => rw [ho] at h4; simp at h4
       by_cases hs1 : n.size = 1
       ·omega
       ·rw [QfL hs1] at hop; cases hop
     refine ⟨⟨fun e => (by cases e), fun e => (by cases e), by omega, by omega, hL.1⟩, ?_⟩
     by_cases ho : (T.mk 2 i n l).oper = 0
     ·have et : (T.mk 2 i n l).txt = funT n (txts l) := by rw [T.txt, if_neg (by simpa using ho), if_neg k0, if_neg k1]
      rw [et, funT, QG]
      have e1 := QfG (decide (0 < (txts l).length)) (YN true (txts l))
      have e2 := QiV (txts l) true
      have e3 := hL.2.1
      refine ⟨?_, ?_, ?_⟩ <;> omega
     ·have hk : l.length = 2 := by
       simp only [T.oper] at ho
       split at ho
       ·exact absurd rfl ho
       ·rename_i hq; exact Decidable.byContradiction fun e => hq (.inr e)
      match l, hk, hL with
      | [a, c], _, hL =>
       have et : (T.mk 2 i n [a, c]).txt = binT (ofB n) n a.oper c.oper a.txt c.txt := by rw [T.txt, if_pos ho]; rfl
       rw [et, binT]
       simp only [QG]
       have hsp : ({ data := #[32] } : ByteArray).size = 1 := rfl
       have e1 := QfG ((a.oper == 1) && (ofB n == 2)) a.txt
       have e2 := QfG ((c.oper != 0) && ((c.oper == 1) || (ofB n == 2))) c.txt
       have e3 := hL.2.1
       have e4 := hL.2.2
       simp only [txts, QqH, QqL, List.sum_cons, List.sum_nil] at e3
       refine ⟨?_, ?_, ?_⟩ <;> omega
    ·cases h
theorem QfU : ∀ (l : List T) (b d : Int), (runL l b d).1 = true → lexL l ∧ ((((txts l).map fun x => x.size + 2).sum : Nat) : Int) ≤ 60 * (b - (runL l b d).2) ∧ (runL l b d).2 ≤ b
 | [], b, d, h => by rw [runL]; exact ⟨trivial, by simp [txts], Int.le_refl _⟩
 | t :: l, b, d, h => by
  rw [runL] at h ⊢
  split at h
  ·rename_i h1
   rw [if_pos h1]
   have ht := T.QpX t b d h1
   have hl := QfU l _ d h
   refine ⟨⟨ht.1, hl.1⟩, ?_, ?_⟩
   ·rw [txts, List.map_cons, List.sum_cons]
    have := hl.2.1
    have := ht.2.1
    omega
   ·have := hl.2.2; have := ht.2.2.2; omega
  ·cases h
end
end Go.Proofs.YtniljpjjnmkoaaaGreatDoor.Ab
set_option maxRecDepth 4000
namespace Go.Proofs.YtniljpjjnmkoaaaGreatDoor.Ab
open Go.Proofs
theorem Qpa {h : AH} (hG : Xj h) (u : Bool) (tx : ByteArray) : Xj (HB (h ++ [AB.dead, AB.dead]) h.length (h.length + 1) u tx) := by
 obtain ⟨k, ty, fr, e⟩ := hG
 refine ⟨k, ty, fr, ?_⟩
 have hk := QA e
 rw [HB, YV _ _ (by omega) (by omega), List.getElem?_append_left hk, e]
section
variable {h : AH} {i j p : Nat} (hi : i < h.length) (hj : j < h.length) (hij : i ≠ j) (hpi : i ≠ p) (hpj : j ≠ p)
theorem QkP (hi : i < h.length) (hj : j < h.length) (hij : i ≠ j) (hpi : i ≠ p) (hpj : j ≠ p) (g : G) (gp : h[p]? = some (.cells 45 2 [g.atom])) (hx : lexL g.args) (hl : g.args.length ≤ 1000000)
  (hG : Xj (HB h i j true (.empty))) (u : Bool) (tx : ByteArray) (hs : tx.size + (funT g.name (txts g.args)).size ≤ 140737488355328) :
  Wri 103 [.ptr i 0 0, .ptr p 0 0] h i j u tx (funT g.name (txts g.args)) := by
 have k1 : ∀ u tx, (HB h i j u tx)[p]? = some (.cells 45 2 [.agg [.v (.string g.name), .sl 4 (avs g.args) none]]) := fun u tx => by
  rw [HB, YV _ _ hpi hpj, gp]; rfl
 have c1 := Qdz hi hj hij g.args hl g.name (fun a ha h hi hj hG tx hs => Qfi g.args hx i j hij a ha h hi hj hG true tx hs) hG u tx hs
 rw [Wri] at c1
 refine Qe Tryz.func103 rfl Tryz.call103 Tryz.ntmps103 (congrArg Array.toList Tryz.results103) (by simp) ?_
 repeat (first | ((first | (with_reducible (first | refine Qa fun K E hK hE => ?_ | refine Qm fun K E hK hE => ?_ | refine FunW.ret (FunW.call c1) ?_))); simp -implicitDefEqProofs only [Qg, Qh, OpW, QI, aop, undef, AS.ev, Qy, ↓reduceIte, Qp, QC, QD, ti9, ti29, ZM, ZO, k1, seval]) | (with_reducible (first | refine Qc fun K hK => ?_ | refine Qi ?_ | refine Qj ?_ | refine QV ?_ | refine QU ?_ | refine Qk ?_ | refine QB ?_ | refine Qb ?_ | refine Qo ?_ | refine Qw ?_ | refine Qn ?_ | refine Qs ?_ | refine Qv ?_ | refine QO rfl ?_)) | (with_reducible (first | refine hK _ ?_ | (clear hK; refine hK _ ?_) | (clear hK; clear hK; refine hK _ ?_) | (clear hK; clear hK; clear hK; refine hK _ ?_)); clear hK) | (refine Qf rfl ?_; simp only [↓reduceIte, Qqw]) | (intro (b : Bool); cases b))
 simp -implicitDefEqProofs only [Qqu, Qqy, List.mapM_nil, Option.pure_def, Qqu, QE, Ql, QqC]
 exact .inr ⟨rfl, rfl⟩
end
end Go.Proofs.YtniljpjjnmkoaaaGreatDoor.Ab
set_option maxRecDepth 4000
namespace Go.Proofs.YtniljpjjnmkoaaaGreatDoor.Ab
open Go.Proofs
end Go.Proofs.YtniljpjjnmkoaaaGreatDoor.Ab
set_option maxRecDepth 4000
namespace Go.Proofs.YtniljpjjnmkoaaaGreatDoor.Ab
open Go.Proofs
def txtA (g : G) : ByteArray := if rightAtomB g = true then funT g.name (txts g.args) else { data := #[] }
theorem Qlo {s : ByteArray} {l : List ByteArray} (h0 : 1 ≤ s.size) : 1 ≤ (funT s l).size := by rw [funT, QG]; omega
theorem QnR (s : ByteArray) (l : List ByteArray) : (funT s l).size ≤ s.size + 2 + (l.map fun x => x.size + 2).sum := by
 rw [funT, QG]
 have e1 := QfG (decide (0 < l.length)) (YN true l)
 have e2 := QiV l true
 omega
theorem QiT {g : G} (h : rightAtomB g = true) : lexL g.args ∧ g.args.length ≤ 6 ∧ 1 ≤ (funT g.name (txts g.args)).size ∧ (funT g.name (txts g.args)).size ≤ 15000 := by
 simp only [rightAtomB, Bool.and_eq_true, decide_eq_true_eq] at h
 obtain ⟨h1, h2, h3⟩ := h
 have hn := QdY h1
 have hl := QfU g.args 200 20 h3
 have hr := Qfs g.args 200 20 (by omega) h3
 refine ⟨hl.1, h2, Qlo hn.1, ?_⟩
 have := QnR g.name (txts g.args)
 have := hl.2.1
 omega
theorem QiM {h : AH} (hG : Xj h) (b : AB) : Xj (HB (h ++ [b] ++ [AB.dead, AB.dead]) (h ++ [b]).length ((h ++ [b]).length + 1) true (.empty)) := Qpa (hG.app [b]) _ _
theorem QfB (g : G) (hl : g.args.length ≤ 1000000) (h : AH) (hG : Xj h) : Q4 Tryz.prog 59 [g.atom] h fun o h' => o = .ret (.v (.string (txtA g))) ∧ h' = h := by
 have cr := YC g
 cases hr : rightAtomB g with
 | false =>
  rw [hr] at cr
  have c1 := Qlz (.fn (.func 103) [] [.ptr h.length 0 0])
  refine Qe Tryz.func59 rfl Tryz.call59 Tryz.ntmps59 (congrArg Array.toList Tryz.results59) (by simp) ?_
  repeat (first | ((first | (with_reducible (first | refine Qa fun K E hK hE => ?_ | refine Qm fun K E hK hE => ?_ | refine Qq cr ?_ | refine Qu cr ?_ | refine Qq c1 ?_ | refine Qu c1 ?_))); simp -implicitDefEqProofs only [Qg, Qh, OpW, QI, aop, undef, AS.ev, Qy, AV.QpF, ↓reduceIte, QC, QD, ti45, QQ, Q6, seval]) | (with_reducible (first | refine Qc fun K hK => ?_ | refine Qi ?_ | refine Qj ?_ | refine QV ?_ | refine QU ?_ | refine Qk ?_ | refine QB ?_ | refine Qb ?_ | refine Qo ?_ | refine Qw ?_ | refine Qn ?_ | refine Qs ?_ | refine Qv ?_ | refine QO rfl ?_)) | (with_reducible (first | refine hK _ ?_ | (clear hK; refine hK _ ?_) | (clear hK; clear hK; refine hK _ ?_) | (clear hK; clear hK; clear hK; refine hK _ ?_)); clear hK) | (refine Qf rfl ?_; simp only [↓reduceIte, Qqw]) | (intro (b : Bool); cases b))
  simp only [QE, Ql, Qr, upd, ↓reduceIte, Qqy, QqC]; first | refine Qd (htake _ _) (.keep (.v _)) ⟨by rw [txtA, if_neg (by rw [hr]; decide)], rfl⟩ | refine Qd List.take_length (.keep (.v _)) ⟨by rw [txtA, if_neg (by rw [hr]; decide)], rfl⟩
 | true =>
  rw [hr] at cr
  obtain ⟨hx, h6, hs0, hs1⟩ := QiT hr
  have hk := QkP (h := h ++ [AB.cells 45 2 [g.atom]] ++ [AB.dead, AB.dead]) (i := (h ++ [AB.cells 45 2 [g.atom]]).length) (j := (h ++ [AB.cells 45 2 [g.atom]]).length + 1) (p := h.length)
   (by simp) (by simp) (by omega) (by simp) (by simp; omega) g (by simp) hx hl (QiM hG _) false .empty (by rw [show (ByteArray.empty).size = 0 from rfl]; omega)
  rw [Wri, ByteArray.empty_append] at hk
  have c1 := Qi7 (.fn (.func 103) [] [.ptr h.length 0 0]) (.tup []) (funT g.name (txts g.args)) (h ++ [AB.cells 45 2 [g.atom]]) hs0 (by omega) (FunW.fn hk)
  refine Qe Tryz.func59 rfl Tryz.call59 Tryz.ntmps59 (congrArg Array.toList Tryz.results59) (by simp) ?_
  repeat (first | ((first | (with_reducible (first | refine Qa fun K E hK hE => ?_ | refine Qm fun K E hK hE => ?_ | refine Qq cr ?_ | refine Qu cr ?_ | refine FunW.ret (FunW.call c1) ?_))); simp -implicitDefEqProofs only [Qg, Qh, OpW, QI, aop, undef, AS.ev, Qy, AV.QpF, ↓reduceIte, QC, QD, ti45, QQ, Q6, seval]) | (with_reducible (first | refine Qc fun K hK => ?_ | refine Qi ?_ | refine Qj ?_ | refine QV ?_ | refine QU ?_ | refine Qk ?_ | refine QB ?_ | refine Qb ?_ | refine Qo ?_ | refine Qw ?_ | refine Qn ?_ | refine Qs ?_ | refine Qv ?_ | refine QO rfl ?_)) | (with_reducible (first | refine hK _ ?_ | (clear hK; refine hK _ ?_) | (clear hK; clear hK; refine hK _ ?_) | (clear hK; clear hK; clear hK; refine hK _ ?_)); clear hK) | (refine Qf rfl ?_; simp only [↓reduceIte, Qqw]) | (intro (b : Bool); cases b))
  simp only [QE, Ql, Qr, upd, ↓reduceIte, Qqy, QqC]; first | refine Qd (htake _ _) (.keep (.v _)) ⟨by rw [txtA, if_pos hr], rfl⟩ | refine Qd List.take_length (.keep (.v _)) ⟨by rw [txtA, if_pos hr], rfl⟩
end Go.Proofs.YtniljpjjnmkoaaaGreatDoor.Ab
set_option maxRecDepth 4000
namespace Go.Proofs.YtniljpjjnmkoaaaGreatDoor.Ab
open Go.Proofs
mutual
def T.QpG : T → Bool
 | .mk k i n l =>
  if k = 0 then decide (-2147483648 ≤ i ∧ i ≤ 2147483648) && Y6 n && l.isEmpty else
  if k = 1 then decide (0 ≤ i ∧ i ≤ 1048576) && Y6 n && l.isEmpty else
  if k = 2 then (if i ≠ 0 ∨ 6 < l.length then false else if (!XY n && !(opB n && decide (l.length = 2))) = true then false else Yf l) else false
def Yf : List T → Bool
 | [] => true
 | t :: l => t.QpG && Yf l
end
theorem T.QpP (t : T) : t.QpG = if t.kind = 0 then decide (-2147483648 ≤ t.int ∧ t.int ≤ 2147483648) && Y6 t.name && t.args.isEmpty else
  if t.kind = 1 then decide (0 ≤ t.int ∧ t.int ≤ 1048576) && Y6 t.name && t.args.isEmpty else
  if t.kind = 2 then (if t.int ≠ 0 ∨ 6 < t.args.length then false else if (!XY t.name && !(opB t.name && decide (t.args.length = 2))) = true then false else Yf t.args) else false := by
 cases t; rw [T.QpG]; rfl
mutual
theorem T.QpL : ∀ (t : T) (b d : Int), (t.run b d).1 = (t.QpG && decide ((t.size : Int) ≤ b ∧ (t.dep : Int) ≤ d)) ∧ ((t.run b d).1 = true → (t.run b d).2 = b - t.size)
 | .mk k i n l, b, d => by
  have hs := size_pos (.mk k i n l)
  have hd : 1 ≤ (T.mk k i n l).dep := by rw [T.Qqo]; omega
  rw [T.run, T.QpG]
  by_cases h1 : b - 1 < 0 ∨ d < 1
  ·rw [if_pos h1, decide_eq_false (show ¬ (((T.mk k i n l).size : Int) ≤ b ∧ ((T.mk k i n l).dep : Int) ≤ d) by omega), Bool.and_false]
   exact ⟨rfl, fun h => by cases h⟩
  rw [if_neg h1]
  have one : k ≠ 2 → (T.mk k i n l).size = 1 ∧ (T.mk k i n l).dep = 1 := fun h => by simp only [T.size, T.dep, if_neg h]; exact ⟨trivial, trivial⟩
  by_cases k0 : k = 0
  ·obtain ⟨e1, e2⟩ := one (by omega)
   rw [if_pos k0, if_pos k0, e1, e2, decide_eq_true (show ((1 : Nat) : Int) ≤ b ∧ ((1 : Nat) : Int) ≤ d by omega), Bool.and_true]
   exact ⟨rfl, fun _ => rfl⟩
  rw [if_neg k0, if_neg k0]
  by_cases k1 : k = 1
  ·obtain ⟨e1, e2⟩ := one (by omega)
   rw [if_pos k1, if_pos k1, e1, e2, decide_eq_true (show ((1 : Nat) : Int) ≤ b ∧ ((1 : Nat) : Int) ≤ d by omega), Bool.and_true]
   exact ⟨rfl, fun _ => rfl⟩
  rw [if_neg k1, if_neg k1]
  by_cases k2 : k = 2
  ·rw [if_pos k2, if_pos k2]
   by_cases h2 : i ≠ 0 ∨ 6 < l.length
   ·rw [if_pos h2, if_pos h2]; exact ⟨rfl, fun h => by cases h⟩
   rw [if_neg h2, if_neg h2]
   by_cases h3 : (!XY n && !(opB n && decide (l.length = 2))) = true
   ·rw [if_pos h3, if_pos h3]; exact ⟨rfl, fun h => by cases h⟩
   rw [if_neg h3, if_neg h3]
   have e1 : (T.mk k i n l).size = 1 + sizes l := by simp only [T.size, if_pos k2]
   have e2 : (T.mk k i n l).dep = 1 + deps l := by simp only [T.dep, if_pos k2]
   obtain ⟨r1, r2⟩ := Z4 l (b - 1) (d - 1) (by omega) (by omega)
   rw [e1, e2]
   refine ⟨?_, fun h => by rw [r2 h]; omega⟩
   rw [r1]
   congr 1
   exact decide_eq_decide.2 (by omega)
  ·rw [if_neg k2, if_neg k2]; exact ⟨rfl, fun h => by cases h⟩
theorem Z4 : ∀ (l : List T) (b d : Int), 0 ≤ b → 0 ≤ d → (runL l b d).1 = (Yf l && decide ((sizes l : Int) ≤ b ∧ (deps l : Int) ≤ d)) ∧ ((runL l b d).1 = true → (runL l b d).2 = b - sizes l)
 | [], b, d, hb, hd => by
  rw [runL, Yf, sizes, deps, decide_eq_true (show ((0 : Nat) : Int) ≤ b ∧ ((0 : Nat) : Int) ≤ d by omega)]
  exact ⟨rfl, fun _ => by omega⟩
 | t :: l, b, d, hb, hd => by
  obtain ⟨r1, r2⟩ := T.QpL t b d
  rw [runL, Yf, sizes, deps]
  by_cases h : (t.run b d).1 = true
  ·rw [if_pos h]
   have e := r2 h
   rw [r1, Bool.and_eq_true, decide_eq_true_eq] at h
   obtain ⟨hf, h1, h2⟩ := h
   obtain ⟨q1, q2⟩ := Z4 l (t.run b d).2 d (by omega) hd
   rw [hf, Bool.true_and]
   refine ⟨?_, fun h => by rw [q2 h]; omega⟩
   rw [q1]
   congr 1
   exact decide_eq_decide.2 (by omega)
  ·rw [if_neg h]
   refine ⟨?_, fun h => by cases h⟩
   rw [r1] at h
   cases hf : t.QpG with
   | false => rfl
   | true =>
    rw [hf, Bool.true_and, decide_eq_true_eq] at h
    rw [decide_eq_false (by omega), Bool.and_false]
end
end Go.Proofs.YtniljpjjnmkoaaaGreatDoor.Ab
set_option maxRecDepth 4000
namespace Go.Proofs.YtniljpjjnmkoaaaGreatDoor.Ab
open Go.Proofs
theorem QlL {s : ByteArray} (f : Int) (h : opB s = true) : ¬ Qdl f s := by
 simp only [opB, Bool.or_eq_true, beq_iff_eq, Lib.toList_data] at h
 have stop : ∀ c : UInt8, s.data.toList = [c] → ¬ fol ((c.toNat : Nat) : Int) → ¬ Qdl f s := fun c hl hc hw => by
  have := hw.2.2.2 0 hw.1
  unfold byteAt at this
  rw [hl] at this
  exact hc this
 rcases h with (((h | h) | h) | h) | h
 ·exact stop _ h (by decide)
 ·exact stop _ h (by decide)
 ·exact stop _ h (by decide)
 ·exact stop _ h (by decide)
 ·exact stop _ h (by decide)
theorem Qjc {s : ByteArray} (h : opB s = true) : XY s = false := by
 rw [XY, decide_eq_false (QlL 1 h), Bool.false_and]
theorem Qnz {s : ByteArray} (h : opB s = false) : ofB s = 0 := by
 simp only [opB, Bool.or_eq_false_iff] at h
 obtain ⟨⟨⟨⟨h1, h2⟩, h3⟩, h4⟩, h5⟩ := h
 rw [ofB, h1, h2, h3, h4, h5]; rfl
theorem QnG {s : ByteArray} (h : opB s = true) : ofB s = if ((s.toList == ({ data := #[43] } : ByteArray).toList) || (s.toList == ({ data := #[45] } : ByteArray).toList)) = true then 1 else 2 := by
 rw [ofB]
 cases h1 : (s.toList == ({ data := #[43] } : ByteArray).toList) || (s.toList == ({ data := #[45] } : ByteArray).toList) with
 | true => rfl
 | false =>
  simp only [opB, h1, Bool.false_or] at h
  rw [if_neg (by simp), if_pos h, if_neg (by simp)]
theorem T.QpM {t : T} (hf : t.QpG = true) (k2 : t.kind = 2) : t.int = 0 ∧ t.args.length ≤ 6 ∧ (XY t.name = true ∨ opB t.name = true ∧ t.args.length = 2) ∧ Yf t.args = true := by
 rw [T.QpP, if_neg (by omega), if_neg (by omega), if_pos k2] at hf
 split at hf
 ·cases hf
 rename_i h1
 split at hf
 ·cases hf
 rename_i h2
 refine ⟨by omega, by omega, ?_, hf⟩
 cases hr : XY t.name with
 | true => exact .inl rfl
 | false =>
  refine .inr ?_
  rw [hr] at h2
  cases ho : opB t.name with
  | false => rw [ho] at h2; exact absurd rfl h2
  | true =>
   rw [ho] at h2
   refine ⟨rfl, ?_⟩
   apply Classical.byContradiction
   intro hc
   rw [decide_eq_false hc] at h2
   exact h2 rfl
theorem T.Qqa (t : T) : t.oper = 0 ∨ t.oper = 1 ∨ t.oper = 2 := by
 rw [T.oper]; split
 ·exact .inl rfl
 ·rw [ofB]; split
  ·exact .inr (.inl rfl)
  ·split
   ·exact .inr (.inr rfl)
   ·exact .inl rfl
theorem Qap : ∀ {l : List T}, Yf l = true → ∀ t ∈ l, t.QpG = true
 | x :: l, h, t, ht => by
  simp only [Yf, Bool.and_eq_true] at h
  rcases List.mem_cons.1 ht with rfl | ht
  ·exact h.1
  ·exact Qap h.2 t ht
end Go.Proofs.YtniljpjjnmkoaaaGreatDoor.Ab
set_option maxRecDepth 4000
namespace Go.Proofs.YtniljpjjnmkoaaaGreatDoor.Ab
open Go.Proofs
end Go.Proofs.YtniljpjjnmkoaaaGreatDoor.Ab
set_option maxRecDepth 4000
namespace Go.Proofs.YtniljpjjnmkoaaaGreatDoor.Ab
open Go.Proofs
def eB : ByteArray := { data := #[] }
theorem Qj4 (l : List T) (most : Int) (ho : oks l) (hm : 0 ≤ most) (hm2 : most ≤ 1000000) : Pure Tryz.prog 28 [.sl 4 (avs l) none, .i most] (.b (weigh 64 l most < 0)) := by
 intro h
 have hc := Qb1 64 (Nat.le_refl _) l most ho (by omega) hm2
 refine Qe Tryz.func28 rfl Tryz.call28 Tryz.ntmps28 (congrArg Array.toList Tryz.results28) (by simp) ?_
 repeat (first | ((first | (with_reducible (first | refine Qa fun K E hK hE => ?_ | refine Qq hc ?_))); simp -implicitDefEqProofs only [Qg, Qh, OpW, QI, aop, undef, AS.ev, Qy, ↓reduceIte, aBin, seval]) | (with_reducible refine Qj ?_) | ((with_reducible refine hK _ ?_); clear hK))
 simp only [QE, Ql, Qr, upd, ↓reduceIte, Qqy, QqC]; first | refine Qd (htake _ _) (.keep (.v _)) ⟨rfl, rfl⟩ | refine Qd List.take_length (.keep (.v _)) ⟨rfl, rfl⟩
theorem Qe6 (i : Int) : Pure Tryz.prog 16 [.i i] (T.mk 1 i eB []).av := by
 intro h
 refine Qe Tryz.func16 rfl Tryz.call16 Tryz.ntmps16 (congrArg Array.toList Tryz.results16) (by simp) ?_
 repeat (first | (((with_reducible refine Qa fun K E hK hE => ?_)); simp -implicitDefEqProofs only [Qg, Qh, OpW, aop, undef, AS.ev, Qy, AV.QpF, ↓reduceIte, QL, QF, Xy, XR, ti41, zi41, sp41, seval]) | (with_reducible refine Qj ?_) | ((with_reducible refine hK _ ?_); clear hK))
 simp -implicitDefEqProofs only [Qg, ↓reduceIte, ti41, QC, QD, QE, Ql, Qr, QqC, seval]
 refine Qd (r' := (T.mk 1 i eB []).av) (htake _ _) ?_ ⟨rfl, rfl⟩
 exact .agg rfl (Xa (.keep (.v _)) (Xa (.keep (.v _)) (Xa (.keep (.v _)) (Ya (.nil 4)))))
mutual
theorem T.QpR : ∀ t : T, t.QpG = true → t.nds = t.size
 | .mk k i n l, h => by
  simp only [T.QpG] at h
  simp only [T.nds, T.size]
  split at h
  ·rename_i k0
   simp only [Bool.and_eq_true, List.isEmpty_iff] at h
   rw [if_neg (by omega), h.2]; rfl
  ·split at h
   ·rename_i k0 k1
    simp only [Bool.and_eq_true, List.isEmpty_iff] at h
    rw [if_neg (by omega), h.2]; rfl
   ·split at h
    ·rename_i k2
     split at h
     ·cases h
     ·split at h
      ·cases h
      ·rw [if_pos k2, QdC l h]
    ·cases h
theorem QdC : ∀ l : List T, Yf l = true → ndsL l = sizes l
 | [], _ => rfl
 | t :: l, h => by
  simp only [Yf, Bool.and_eq_true] at h
  simp only [ndsL, sizes]
  rw [T.QpR t h.1, QdC l h.2]
end
theorem Ql8 {t : T} (h : (t.run 200 20).1 = true) : t.QpG = true ∧ t.nds ≤ 200 ∧ (t.run 200 20).2 = 200 - t.size := by
 obtain ⟨h1, h2⟩ := T.QpL t 200 20
 rw [h] at h1
 have h3 := h1.symm
 simp only [Bool.and_eq_true, decide_eq_true_eq] at h3
 refine ⟨h3.1, ?_, h2 h⟩
 rw [T.QpR t h3.1]; omega
def txtT (t : T) : ByteArray := if t.runOk = true then t.txt else { data := #[] }
theorem Qk3 {h : AH} {i j p : Nat} (hi : i < h.length) (hj : j < h.length) (hij : i ≠ j) (hpi : i ≠ p) (hpj : j ≠ p) (t : T) (gp : h[p]? = some (.cells 41 4 [t.av])) (hx : t.lex)
  (hG : Xj (HB h i j true (.empty))) (u : Bool) (tx : ByteArray) (hs : tx.size + t.txt.size ≤ 140737488355328) :
  Wri 101 [.ptr i 0 0, .ptr p 0 0] h i j u tx t.txt := by
 have k1 : ∀ u tx, (HB h i j u tx)[p]? = some (.cells 41 4 [t.av]) := fun u tx => by
  rw [HB, YV _ _ hpi hpj, gp]
 have c1 := T.QpZ t hx i j hij h hi hj hG u tx hs
 rw [Wri] at c1
 refine Qe Tryz.func101 rfl Tryz.call101 Tryz.ntmps101 (congrArg Array.toList Tryz.results101) (by simp) ?_
 repeat (first | ((first | (with_reducible (first | refine Qm fun K E hK hE => ?_ | refine FunW.ret (FunW.call c1) ?_))); simp -implicitDefEqProofs only [Qg, Qh, OpW, QI, aop, undef, AS.ev, Qy, ↓reduceIte, QC, QD, ti41, k1, seval]) | ((with_reducible refine hK _ ?_); clear hK))
 simp -implicitDefEqProofs only [Qqu, Qqy, List.mapM_nil, Option.pure_def, Qqu, QE, Ql, QqC]
 exact .inr ⟨rfl, rfl⟩
theorem QlZ (t : T) (h : AH) (hG : Xj h) : Q4 Tryz.prog 58 [t.av] h fun o h' => o = .ret (.v (.string (txtT t))) ∧ h' = h := by
 have cr := Qa5 t
 cases hr : t.runOk with
 | false =>
  rw [hr] at cr
  have c1 := Qlz (.fn (.func 101) [] [.ptr h.length 0 0])
  refine Qe Tryz.func58 rfl Tryz.call58 Tryz.ntmps58 (congrArg Array.toList Tryz.results58) (by simp) ?_
  repeat (first | ((first | (with_reducible (first | refine Qa fun K E hK hE => ?_ | refine Qq cr ?_ | refine Qq c1 ?_))); simp -implicitDefEqProofs only [Qg, Qh, OpW, QI, aop, undef, AS.ev, Qy, AV.QpF, ↓reduceIte, QC, QD, ti41, seval]) | (with_reducible refine Qj ?_) | ((with_reducible refine hK _ ?_); clear hK))
  simp only [QE, Ql, Qr, upd, ↓reduceIte, Qqy, QqC]; first | refine Qd (htake _ _) (.keep (.v _)) ⟨by rw [txtT, if_neg (by rw [hr]; decide)], rfl⟩ | refine Qd List.take_length (.keep (.v _)) ⟨by rw [txtT, if_neg (by rw [hr]; decide)], rfl⟩
 | true =>
  rw [hr] at cr
  obtain ⟨r1, r2, r3⟩ := Ql8 (t := t) hr
  obtain ⟨hx, hs0, hs1, hs2⟩ := T.QpX t 200 20 hr
  have hsz := T.QpR t r1
  have hk := Qk3 (h := h ++ [AB.cells 41 4 [t.av]] ++ [AB.dead, AB.dead]) (i := (h ++ [AB.cells 41 4 [t.av]]).length) (j := (h ++ [AB.cells 41 4 [t.av]]).length + 1) (p := h.length)
   (by simp) (by simp) (by omega) (by simp) (by simp; omega) t (by simp) hx (QiM hG _) false .empty (by rw [show (ByteArray.empty).size = 0 from rfl]; omega)
  rw [Wri, ByteArray.empty_append] at hk
  have c1 := Qi7 (.fn (.func 101) [] [.ptr h.length 0 0]) (.tup []) t.txt (h ++ [AB.cells 41 4 [t.av]]) hs1 (by omega) (FunW.fn hk)
  refine Qe Tryz.func58 rfl Tryz.call58 Tryz.ntmps58 (congrArg Array.toList Tryz.results58) (by simp) ?_
  repeat (first | ((first | (with_reducible (first | refine Qa fun K E hK hE => ?_ | refine Qq cr ?_ | refine FunW.ret (FunW.call c1) ?_))); simp -implicitDefEqProofs only [Qg, Qh, OpW, QI, aop, undef, AS.ev, Qy, AV.QpF, ↓reduceIte, QC, QD, ti41, seval]) | (with_reducible refine Qj ?_) | ((with_reducible refine hK _ ?_); clear hK))
  simp only [QE, Ql, Qr, upd, ↓reduceIte, Qqy, QqC]; first | refine Qd (htake _ _) (.keep (.v _)) ⟨by rw [txtT, if_pos hr], rfl⟩ | refine Qd List.take_length (.keep (.v _)) ⟨by rw [txtT, if_pos hr], rfl⟩
end Go.Proofs.YtniljpjjnmkoaaaGreatDoor.Ab
set_option maxRecDepth 4000
namespace Go.Proofs.YtniljpjjnmkoaaaGreatDoor.Ab
open Go.Proofs
def strs (l : List ByteArray) : List AV := l.map fun x => .v (.string x)
theorem Y1 (l : List ByteArray) : (strs l).length = l.length := List.length_map _
theorem QdB (l m : List ByteArray) : strs (l ++ m) = strs l ++ strs m := List.map_append
theorem Qhb : ∀ l : List ByteArray, flat (strs l) = strs l
 | [] => rfl
 | x :: l => by rw [strs, List.map_cons, Xh]; show [AV.v (.string x)] ++ flat (strs l) = _; rw [Qhb l]; rfl
def YU (xs : List ByteArray) (sep : ByteArray) : ByteArray := ⟨(Lib.join (xs.map (·.data.toList)) sep.data.toList).toArray⟩
theorem QgS (xs : List ByteArray) (sep : ByteArray) (hl : (YU xs sep).size ≤ 140737488355328) (hn : xs.length ≤ 1000000) :
  Pure Tryz.prog 60 [.sl 1 (strs xs) none, .v (.string sep)] (.v (.string (YU xs sep))) := by
 intro h
 refine ⟨Tryz.call60, fun F n c vals hF hst hh hvals => ZR hF ?_⟩
 obtain ⟨hsz, hrel⟩ := hvals
 simp only [QqF, QqG] at hsz
 obtain ⟨u, v, rfl⟩ : ∃ u v, vals = #[u, v] := by
  match vals, hsz with
  | ⟨[u, v]⟩, _ => exact ⟨u, v, rfl⟩
 have h1 := hrel 0 _ _ rfl rfl
 have h2 := hrel 1 _ _ rfl rfl
 cases h2
 have fin : ∀ (e : Ending) (w' : World), (∃ s, e = .returned (.string s) ∧ s = YU xs sep ∧ Go.RowKit.Below c.w.heap.size c.w w') → ∃ o c', (o = AOut.ret (.v (.string (YU xs sep))) ∧ c'.h = h) ∧ Ev c c' ∧ St c' ∧ c'.w = w' ∧ EndC c' o e := by
  rintro e w' ⟨s, rfl, rfl, hb⟩
  have hg := Grows.of_below hb
  exact ⟨_, c.to w', ⟨rfl, hh⟩, Ev.grows hst hg, hst.grows hg, rfl, ⟨_, rfl, .v _⟩⟩
 have hnone : ∀ (a : Option Addr) (k : Nat), xs = [] → Calls Tryz.prog 60 #[.slice a 0 k, .string sep] c.w fun e w' => ∃ o c', (o = AOut.ret (.v (.string (YU xs sep))) ∧ c'.h = h) ∧ Ev c c' ∧ St c' ∧ c'.w = w' ∧ EndC c' o e := by
  intro a k hx
  refine (Tryz.strings_Join_none a k sep c.w).mono ?_
  rintro e w' ⟨rfl, rfl⟩
  exact fin _ _ ⟨_, rfl, by subst hx; rfl, Go.RowKit.Below.refl _ _⟩
 cases h1' : xs with
 | nil =>
  rw [h1'] at h1 hnone
  cases h1 with
  | slnil => exact hnone _ _ rfl
  | slzero => exact hnone _ _ rfl
  | sl => exact hnone _ _ rfl
 | cons x0 xs0 =>
  rw [← h1']
  have hpos : 0 < xs.length := by rw [h1']; simp
  generalize hsx : strs xs = sx at h1
  cases h1 with
  | slnil => rw [h1'] at hsx; simp [strs] at hsx
  | slzero => rw [h1'] at hsx; simp [strs] at hsx
  | sl _ _ _ B o cap f hs hcap hmax hc hr ht =>
   subst hsx
   rw [Qhb] at hc hr
   have hcell : ∀ (j : Nat) x, xs[j]? = some x → c.w.cell? ⟨B, o + j, none⟩ = some (.string x) := fun j x hx => by
    have hj : (strs xs)[j]? = some (.v (.string x)) := by rw [strs, List.getElem?_map, hx]; rfl
    have h3 := (hc j _ hj).1.1
    have h4 := hr j _ hj
    cases h4e : f j with
    | _ => rw [h4e] at h3 h4; cases h4 <;> exact h3
   have hB : B < c.w.heap.size := by
    have hj : (strs xs)[0]? = some (.v (.string x0)) := by rw [h1']; rfl
    exact (hc 0 _ hj).1.2.1
   rw [Y1] at hcap ⊢
   refine (Tryz.strings_Join B o cap xs sep c.w hcell hB (by omega) hcap (by simpa [YU, ByteArray.size] using hl)).mono ?_
   rintro e w' ⟨rfl, hb⟩
   exact fin _ _ ⟨_, rfl, rfl, hb⟩
end Go.Proofs.YtniljpjjnmkoaaaGreatDoor.Ab
set_option maxRecDepth 4000
namespace Go.Proofs.YtniljpjjnmkoaaaGreatDoor.Ab
open Go.Proofs
theorem Keep.hasG {h hx : AH} {g : Nat} {cs : Array Value} (k : Keep h hx) (H : HasG h g cs) : HasG hx g cs := by
 obtain ⟨id, ty, fr, hh⟩ := H
 exact ⟨id, ty, fr, k _ _ hh (by intros; nofun)⟩
theorem Xj.onto {h : AH} (H : Xj h) (L : AH) : Xj (h ++ L) := HasG.app H L
theorem Xj.kept {h hx : AH} (H : Xj h) (k : Keep h hx) : Xj hx := k.hasG H
def eqS : ByteArray := { data := #[32, 61, 32] }
def cmS : ByteArray := { data := #[44, 32] }
def smS : ByteArray := { data := #[59] }
def spS : ByteArray := { data := #[32] }
def flS : ByteArray := { data := #[102, 97, 105, 108, 101, 100] }
def txV (k : Nat) (t : T) : ByteArray := vOf (decN k) ++ eqS ++ txtT t
def txVs (l : List T) : List ByteArray := (List.range l.length).map fun k => txV k (l.getD k T.zero)
theorem Y3 (l : List T) : (txVs l).length = l.length := by simp [txVs]
theorem QkY {l : List T} {k : Nat} (h : k < l.length) : (txVs l).take (k + 1) = (txVs l).take k ++ [txV k l[k]] := by
 have hk : k < (txVs l).length := by rw [Y3]; exact h
 rw [List.take_succ_eq_append_getElem hk]
 simp only [txVs, List.getElem_map, List.getElem_range]
 rw [List.getD_eq_getElem?_getD, List.getElem?_eq_getElem h]; rfl
def Yp (a : An) : ByteArray :=
 if a.failed = true then flS else if 1048576 < a.vals.length then eB else if a.vals.all T.runOk = false then eB else if a.store.all rightAtomB = false then eB else
 if 0 < a.store.length then YU (txVs a.vals) cmS ++ smS ++ (spS ++ YU (a.store.map txtA) cmS) else YU (txVs a.vals) cmS ++ smS
def QeA (l : List ByteArray) : Nat := (l.map fun x => x.size + 2).sum
theorem Qeh (l : List ByteArray) : (YU l cmS).size ≤ QeA l := by
 cases l with
 | nil => exact Nat.zero_le _
 | cons x r =>
  have e : (YU (x :: r) cmS).size = x.size + (Lib.joinTail cmS.data.toList (r.map (·.data.toList))).length := by
   show (Lib.join (x.data.toList :: r.map (·.data.toList)) _).toArray.size = _
   rw [Lib.join_cons, List.size_toArray, List.length_append, Array.length_toList]; rfl
  rw [e, Lib.joinTail_length]
  have hc : cmS.data.toList.length = 2 := rfl
  have hs : ∀ r : List ByteArray, Lib.lens (r.map (·.data.toList)) + 2 * r.length = QeA r := fun r => by
   induction r with
   | nil => rfl
   | cons y r ih =>
    simp only [Lib.lens, QeA, QqH, List.sum_cons, QqF] at ih ⊢
    have : y.data.toList.length = y.size := Array.length_toList
    omega
  have := hs r
  rw [hc, List.length_map]
  simp only [QeA, QqH, List.sum_cons] at this ⊢
  omega
theorem Qf8 {l : List ByteArray} {K : Nat} (h : ∀ x ∈ l, x.size ≤ K) : QeA l ≤ l.length * (K + 2) := by
 induction l with
 | nil => exact Nat.zero_le _
 | cons x l ih =>
  have h1 := h x (by simp)
  have h2 := ih fun y hy => h y (by simp [hy])
  simp only [QeA, QqH, List.sum_cons, QqF] at h2 ⊢
  rw [Nat.add_mul]; omega
theorem QgE (t : T) : (txtT t).size ≤ 15000 := by
 unfold txtT
 split
 ·rename_i h
  obtain ⟨_, h1, h2, h3⟩ := T.QpX t 200 20 h
  have := T.QpQ t 200 20 (by omega) h
  omega
 ·exact Nat.zero_le _
theorem QkN (g : G) : (txtA g).size ≤ 15000 := by
 unfold txtA
 split
 ·rename_i h; exact (QiT h).2.2.2
 ·exact Nat.zero_le _
theorem QiK {k : Nat} (hk : k ≤ 1048576) (t : T) : (vOf (decN k)).size ≤ 8 ∧ (txV k t).size ≤ 15011 := by
 have h1 := Qfc hk
 have h2 := QgE t
 have h3 : (vOf (decN k)).size ≤ 8 := by rw [vOf, QG]; show 1 + _ ≤ 8; omega
 refine ⟨h3, ?_⟩
 rw [txV, QG, QG]
 show _ + 3 + _ ≤ _
 omega
theorem Qdw (a : An) (hv : a.vals.length ≤ 1000) (hs : a.store.length ≤ 1000) (hga : ∀ g ∈ a.store, g.args.length ≤ 1000000) (h : AH) (hG : Xj h) :
  Q4 Tryz.prog 23 [a.av] h fun o h' => o = .ret (.v (.string (Yp a))) ∧ h' = h := by
 have hb1 : ¬ ((a.vals.length : Int) > 1048576) := by omega
 have hb2 : ¬ (1048576 < a.vals.length) := by omega
 cases hf : a.failed with
 | true =>
  have e : Yp a = flS := by rw [Yp, if_pos hf]
  refine Qe Tryz.func23 rfl Tryz.call23 Tryz.ntmps23 (congrArg Array.toList Tryz.results23) (by simp) ?_
  repeat (first | (((with_reducible refine Qa fun K E hK hE => ?_)); simp -implicitDefEqProofs only [Qg, Qh, OpW, aop, undef, AS.ev, Qy, AV.QpF, ↓reduceIte, Qp, QC, QD, ti4, Z8, An.cells, hf, seval]) | (with_reducible (first | refine Qc fun K hK => ?_ | refine Qj ?_ | refine Qo ?_)) | ((with_reducible refine hK _ ?_); clear hK) | (refine Qf rfl ?_; simp only [↓reduceIte]))
  simp only [QE, Ql, Qr, upd, ↓reduceIte, Qqy, QqC]; first | refine Qd (htake _ _) (.keep (.v _)) ⟨by rw [e]; rfl, rfl⟩ | refine Qd List.take_length (.keep (.v _)) ⟨by rw [e]; rfl, rfl⟩
 | false =>
  have hvs : ∀ x ∈ txVs a.vals, x.size ≤ 15011 := fun x hx => by
   simp only [txVs, List.mem_map, List.mem_range] at hx
   obtain ⟨k, hk, rfl⟩ := hx
   exact (QiK (by omega) _).2
  have hJ1 : (YU (txVs a.vals) cmS).size ≤ 15013000 := by
   have h1 := Qeh (txVs a.vals)
   have h2 := Qf8 hvs
   rw [Y3] at h2
   omega
  have hJ2 : (YU (a.store.map txtA) cmS).size ≤ 15013000 := by
   have h1 := Qeh (a.store.map txtA)
   have h2 := Qf8 (l := a.store.map txtA) (K := 15000) (fun x hx => by obtain ⟨g, _, rfl⟩ := List.mem_map.1 hx; exact QkN g)
   rw [List.length_map] at h2
   omega
  have wv : ∀ (l : List ByteArray) (o : Option Nat) , WkL [AV.sl 1 (strs l) o, .v (.string cmS)] [AV.sl 1 (strs l) none, .v (.string cmS)] := fun l o =>
   .cons (.sl rfl (fun y hy => by simp only [strs, List.mem_map] at hy; obtain ⟨t, _, rfl⟩ := hy; rfl) (.refl _)) (.cons (.refl _) .nil)
  have cj1 := fun o => Zj (wv _ o) (QgS (txVs a.vals) cmS (by omega) (by rw [Y3]; omega))
  have cj2 := fun o => Zj (wv _ o) (QgS (a.store.map txtA) cmS (by omega) (by rw [List.length_map]; omega))
  have hsz1 : smS.size = 1 := rfl
  have hsz2 : spS.size = 1 := rfl
  have hsz3 : eqS.size = 3 := rfl
  have ad1 := fun xo yo => ZV Tryz.prog 9 xo yo (YU (txVs a.vals) cmS) smS (by omega)
  have ad2 := fun xo yo => ZV Tryz.prog 9 xo yo spS (YU (a.store.map txtA) cmS) (by omega)
  have ad3 := fun xo yo => ZV Tryz.prog 9 xo yo (YU (txVs a.vals) cmS ++ smS) (spS ++ YU (a.store.map txtA) cmS) (by simp only [QG]; omega)
  simp only [smS, spS, cmS] at ad1 ad2 ad3 cj1 cj2
  refine Qe Tryz.func23 rfl Tryz.call23 Tryz.ntmps23 (congrArg Array.toList Tryz.results23) (by simp) ?_
  repeat (first | (((with_reducible refine Qa fun K E hK hE => ?_)); simp -implicitDefEqProofs only [Qg, Qh, OpW, aop, undef, AS.ev, Qy, AV.QpF, ↓reduceIte, Qp, QC, QD, aBin, aLen, goInt, ti4, ti29, un29, Z8, ZN, An.cells, hf, hb1, seval]) | (with_reducible (first | refine Qc fun K hK => ?_ | refine Qi ?_ | refine Qk ?_ | refine Qb ?_)) | ((with_reducible refine hK _ ?_); clear hK) | (refine Qf rfl ?_; simp only [↓reduceIte, Qqw]))
  refine YS 3 9 1 rfl ?_
  refine YS 4 9 1 rfl ?_
  have hVall : ∀ k (hk : k < a.vals.length), (a.vals[k]).runOk = false → Yp a = eB := fun k hk hr => by
   rw [Yp, if_neg (by rw [hf]; decide), if_neg hb2, if_pos]
   rw [Bool.eq_false_iff]
   intro hq
   rw [List.all_eq_true] at hq
   rw [hq _ (List.getElem_mem hk)] at hr
   cases hr
  obtain ⟨I, hI⟩ : ∃ I : Nat → AS → Prop, I = fun m' s => ∃ (k : Nat) (M : AH), m' = a.vals.length - k ∧ k ≤ a.vals.length ∧ (∀ t ∈ a.vals.take k, t.runOk = true) ∧ s.tm 1 = .ptr h.length 0 0 ∧ s.tm 3 = .sl 1 (strs ((txVs a.vals).take k)) (some (h.length + 1)) ∧ s.tm 4 = .sl 1 [] (some (h.length + 2)) ∧ s.tm 17 = .sl 4 (avs a.vals) none ∧ s.tm 18 = .i a.vals.length ∧ s.tm 19 = .i k ∧
    s.h = h ++ ([.cells 32 3 [a.av], .grow 9 1 k, .grow 9 1 0] ++ M) := ⟨_, rfl⟩; refine QJ I ?_ (m := a.vals.length) ?_
  ·intro m' s hs; rw [hI] at hs; obtain ⟨tm, hp⟩ := s; dsimp only at hs; obtain ⟨k, M, rfl, hk, hall, t1, t3, t4, t17, t18, t19, rfl⟩ := hs
   by_cases hlt : k < a.vals.length
   ·have cr := Qa5 a.vals[k]
    obtain ⟨q1, q2⟩ := QiK (k := k) (by omega) a.vals[k]
    have q3 := QgE a.vals[k]
    have hle1 : ((txVs a.vals).take k).length = k := by rw [List.length_take, Y3]; omega
    have hm1 : k + 1 ≤ maxLen := by simp only [maxLen]; omega
    have hm2 : (k + 1) * 16 ≤ 140737488355328 := by omega
    have ad4 := fun xo yo => ZV Tryz.prog 9 xo yo (vOf (decN k)) eqS (by omega)
    have ad5 := fun xo yo => ZV Tryz.prog 9 xo yo (vOf (decN k) ++ eqS) (txtT a.vals[k]) (by simp only [QG]; omega)
    simp only [eqS] at ad4 ad5
    cases hr : (a.vals[k]).runOk with
    | false =>
     rw [hr] at cr
     rw [hVall k hlt hr]
     repeat (first | ((first | (with_reducible (first | refine Qa fun K E hK hE => ?_ | refine Qq cr ?_))); simp -implicitDefEqProofs only [Qg, Qh, OpW, QI, aop, undef, AS.ev, AV.QpF, ↓reduceIte, QC, QD, QL, QF, Qz, aBin, ei29, ti41, zi41, t17, t18, t19, hlt, Xc hlt, seval]) | (with_reducible (first | refine Qc fun K hK => ?_ | refine Qi ?_ | refine Qj ?_ | refine Qk ?_ | refine Qb ?_ | refine Qo ?_ | refine Qs ?_)) | ((with_reducible refine hK _ ?_); clear hK) | (refine Qf rfl ?_; simp only [↓reduceIte]))
     simp only [QE, Ql, Qr, upd, ↓reduceIte, Qqy, QqC]; first | refine Qd (htake _ _) (.keep (.v _)) ⟨rfl, rfl⟩ | refine Qd List.take_length (.keep (.v _)) ⟨rfl, rfl⟩
    | true =>
     rw [hr] at cr
     repeat (first | ((first | (with_reducible (first | refine Qa fun K E hK hE => ?_ | refine Qm fun K E hK hE => ?_ | refine Qq cr ?_ | refine ZB (fun hx hk => FunW.call (Qgy k (Nat.le_trans (Nat.le_of_lt hlt) (Nat.le_trans hv (by decide))) hx ((hG.onto _).kept hk))) ?_ | refine ZB (fun hx hk => FunW.call (QlZ a.vals[k] hx ((hG.onto _).kept hk))) ?_)) | (refine QH (id := 11) [(0, 0), (1, 0), (2, 0), (3, 0), (4, 0), (5, 0), (6, 0), (7, 0), (8, 2), (9, 0)] mixed (by kernel_rfl) fun K hK => ?_)); simp -implicitDefEqProofs only [Qg, Qh, OpW, QI, aop, undef, AS.ev, AV.QpF, ↓reduceIte, QC, QD, QL, QF, Qz, aBin, QK, XA, X6, zi9, ei29, ti41, zi41, ei92, ai92, t3, t17, t18, t19, hlt, Xc hlt, Y1, hle1, hm1, hm2, ad4, ad5, seval]) | (with_reducible (first | refine Qc fun K hK => ?_ | refine Qi ?_ | refine Qk ?_ | refine Qb ?_ | refine Qn ?_)) | ((with_reducible refine hK _ ?_); clear hK) | (refine Qf rfl ?_; simp only [↓reduceIte, Qqw]))
     refine Q1.mk (m' := a.vals.length - (k + 1)) (by omega) ?_
     rw [hI]
     refine ⟨k + 1, M ++ [.cells 41 4 [(a.vals[k]).av]], rfl, hlt, ?_, t1, ?_, t4, t17, t18, ?_, ?_⟩
     ·rw [List.take_succ_eq_append_getElem hlt]
      intro t ht
      rcases List.mem_append.1 ht with ht | ht
      ·exact hall t ht
      ·rw [List.mem_singleton] at ht; subst ht; exact hr
     ·simp only [upd, ↓reduceIte, Nat.reduceEqDiff]
      rw [QkY hlt, QdB]; rfl
     ·simp only [upd, ↓reduceIte]
      rw [QP (by omega)]
     ·simp
   ·have hkl : k = a.vals.length := by omega
    subst hkl
    rw [List.take_length] at hall
    have hVok : ¬ a.vals.all T.runOk = false := by rw [Bool.not_eq_false, List.all_eq_true]; exact hall
    have ht3 : (txVs a.vals).take a.vals.length = txVs a.vals := List.take_of_length_le (by rw [Y3]; exact Nat.le_refl _)
    rw [ht3] at t3
    repeat (first | (((with_reducible refine Qa fun K E hK hE => ?_)); simp -implicitDefEqProofs only [Qg, Qh, OpW, aop, AS.ev, ↓reduceIte, Qp, QC, QD, aBin, aLen, goInt, ti30, un30, YF, An.cells, t1, t18, t19, hlt, QN, seval]) | (with_reducible (first | refine Qc fun K hK => ?_ | refine Qi ?_ | refine QB ?_ | refine Qb ?_ | refine Qw ?_ | refine Qv ?_)) | ((with_reducible refine hK _ ?_); clear hK) | (clear hK; (with_reducible refine hK _ ?_); clear hK) | (refine Qf rfl ?_; simp only [↓reduceIte, Qqw]))
    obtain ⟨I, hI⟩ : ∃ I : Nat → AS → Prop, I = fun m' s => ∃ (k : Nat) (M : AH), m' = a.store.length - k ∧ k ≤ a.store.length ∧ (∀ g ∈ a.store.take k, rightAtomB g = true) ∧ s.tm 3 = .sl 1 (strs (txVs a.vals)) (some (h.length + 1)) ∧ s.tm 4 = .sl 1 (strs ((a.store.take k).map txtA)) (some (h.length + 2)) ∧ s.tm 38 = .sl 2 (vs G.atom a.store) none ∧ s.tm 39 = .i a.store.length ∧ s.tm 40 = .i k ∧
      s.h = h ++ ([.cells 32 3 [a.av], .grow 9 1 a.vals.length, .grow 9 1 k] ++ M) := ⟨_, rfl⟩; refine QJ I ?_ (m := a.store.length) ?_
    ·intro m' s hs; rw [hI] at hs; obtain ⟨tm, hp⟩ := s; dsimp only at hs; obtain ⟨k, M, rfl, hk, halls, t3, t4, t38, t39, t40, rfl⟩ := hs
     by_cases hlt : k < a.store.length
     ·have cr := YC a.store[k]
      have hle1 : ((a.store.take k).map txtA).length = k := by rw [List.length_map, List.length_take]; omega
      have hm1 : k + 1 ≤ maxLen := by simp only [maxLen]; omega
      have hm2 : (k + 1) * 16 ≤ 140737488355328 := by omega
      have hgk := hga _ (List.getElem_mem hlt)
      cases hr : rightAtomB a.store[k] with
      | false =>
       rw [hr] at cr
       have e : Yp a = eB := by
        rw [Yp, if_neg (by rw [hf]; decide), if_neg hb2, if_neg hVok, if_pos]
        rw [Bool.eq_false_iff]
        intro hq
        rw [List.all_eq_true] at hq
        rw [hq _ (List.getElem_mem hlt)] at hr
        cases hr
       rw [e]
       repeat (first | ((first | (with_reducible (first | refine Qa fun K E hK hE => ?_ | refine Qq cr ?_))); simp -implicitDefEqProofs only [Qg, Qh, OpW, QI, aop, undef, AS.ev, AV.QpF, ↓reduceIte, QC, QD, QL, QF, Qz, aBin, ei30, ti45, zi45, t38, t39, t40, hlt, QN, XN G.atom hlt, QQ, Q6, seval]) | (with_reducible (first | refine Qc fun K hK => ?_ | refine Qi ?_ | refine Qj ?_ | refine Qk ?_ | refine Qb ?_ | refine Qo ?_ | refine Qs ?_)) | ((with_reducible refine hK _ ?_); clear hK) | (refine Qf rfl ?_; simp only [↓reduceIte]))
       simp only [QE, Ql, Qr, upd, ↓reduceIte, Qqy, QqC]; first | refine Qd (htake _ _) (.keep (.v _)) ⟨rfl, rfl⟩ | refine Qd List.take_length (.keep (.v _)) ⟨rfl, rfl⟩
      | true =>
       rw [hr] at cr
       repeat (first | ((first | (with_reducible (first | refine Qa fun K E hK hE => ?_ | refine Qm fun K E hK hE => ?_ | refine Qq cr ?_ | refine FunW.ret (FunW.call (QfB a.store[k] hgk _ (hG.onto _))) ?_))); simp -implicitDefEqProofs only [Qg, Qh, OpW, QI, aop, undef, AS.ev, AV.QpF, ↓reduceIte, QC, QD, QL, QF, Qz, aBin, QK, XA, X6, zi9, ei30, ti45, zi45, ei92, ai92, t4, t38, t39, t40, hlt, QN, XN G.atom hlt, QQ, Q6, Y1, hle1, hm1, hm2, seval]) | (with_reducible (first | refine Qc fun K hK => ?_ | refine Qi ?_ | refine Qk ?_ | refine Qb ?_ | refine Qn ?_)) | ((with_reducible refine hK _ ?_); clear hK) | (refine Qf rfl ?_; simp only [↓reduceIte, Qqw]))
       refine Q1.mk (m' := a.store.length - (k + 1)) (by omega) ?_
       rw [hI]
       refine ⟨k + 1, M ++ [.cells 45 2 [(a.store[k]).atom]], rfl, hlt, ?_, t3, ?_, t38, t39, ?_, ?_⟩
       ·rw [List.take_succ_eq_append_getElem hlt]
        intro t ht
        rcases List.mem_append.1 ht with ht | ht
        ·exact halls t ht
        ·rw [List.mem_singleton] at ht; subst ht; exact hr
       ·simp only [upd, ↓reduceIte, Nat.reduceEqDiff]
        rw [List.take_succ_eq_append_getElem hlt, List.map_append, QdB]; rfl
       ·simp only [upd, ↓reduceIte]
        rw [QP (by omega)]
       ·simp
     ·have hkl : k = a.store.length := by omega
      subst hkl
      rw [List.take_length] at halls t4
      have hSok : ¬ a.store.all rightAtomB = false := by rw [Bool.not_eq_false, List.all_eq_true]; exact halls
      have e : Yp a = if 0 < a.store.length then YU (txVs a.vals) cmS ++ smS ++ (spS ++ YU (a.store.map txtA) cmS) else YU (txVs a.vals) cmS ++ smS := by
       rw [Yp, if_neg (by rw [hf]; decide), if_neg hb2, if_neg hVok, if_neg hSok]
      by_cases hp : 0 < a.store.length
      ·have hpI : ((a.store.length : Nat) : Int) > 0 := by omega
       rw [if_pos hp] at e
       repeat (first | ((first | (with_reducible (first | refine Qa fun K E hK hE => ?_ | refine Qm fun K E hK hE => ?_ | refine Qq (cj1 _) ?_ | refine Qq (cj2 _) ?_))); simp -implicitDefEqProofs only [Qg, Qh, OpW, QI, aop, AS.ev, ↓reduceIte, aBin, aLen, goInt, un92, t3, t4, t39, t40, hlt, Y1, List.length_map, hpI, ad1, ad2, ad3, seval]) | (with_reducible (first | refine Qc fun K hK => ?_ | refine Qj ?_ | refine QB ?_ | refine Qb ?_ | refine Qw ?_ | refine Qv ?_)) | ((with_reducible refine hK _ ?_); clear hK) | (clear hK; (with_reducible refine hK _ ?_); clear hK) | (refine Qf rfl ?_; simp only [↓reduceIte, Qqw]))
       simp only [QE, Ql, Qr, upd, ↓reduceIte, Qqy, QqC]; first | refine Qd (htake _ _) (.keep (.v _)) ⟨by rw [e]; rfl, rfl⟩ | refine Qd List.take_length (.keep (.v _)) ⟨by rw [e]; rfl, rfl⟩
      ·have hpI : ¬ ((a.store.length : Nat) : Int) > 0 := by omega
       rw [if_neg hp] at e
       repeat (first | ((first | (with_reducible (first | refine Qa fun K E hK hE => ?_ | refine Qq (cj1 _) ?_))); simp -implicitDefEqProofs only [Qg, Qh, OpW, QI, aop, AS.ev, ↓reduceIte, aBin, aLen, goInt, un92, t3, t4, t39, t40, hlt, Y1, List.length_map, hpI, ad1, seval]) | (with_reducible (first | refine Qc fun K hK => ?_ | refine Qj ?_ | refine Qk ?_ | refine QB ?_ | refine Qb ?_ | refine Qw ?_ | refine Qv ?_)) | ((with_reducible refine hK _ ?_); clear hK) | (clear hK; (with_reducible refine hK _ ?_); clear hK) | (refine Qf rfl ?_; simp only [↓reduceIte, Qqw]))
       simp only [QE, Ql, Qr, upd, ↓reduceIte, Qqy, QqC]; first | refine Qd (htake _ _) (.keep (.v _)) ⟨by rw [e]; rfl, rfl⟩ | refine Qd List.take_length (.keep (.v _)) ⟨by rw [e]; rfl, rfl⟩
    ·rw [hI]
     exact ⟨0, M, by omega, Nat.zero_le _, by simp, t3, t4, rfl, by simp only [upd, ↓reduceIte, Nat.reduceEqDiff], rfl, rfl⟩
  ·rw [hI]
   exact ⟨0, [], by omega, Nat.zero_le _, by simp, rfl, by simp only [upd, ↓reduceIte, Nat.reduceEqDiff]; simp [strs], by simp only [upd, ↓reduceIte]; simp, rfl, by simp only [upd, ↓reduceIte, Nat.reduceEqDiff], rfl, by simp⟩
end Go.Proofs.YtniljpjjnmkoaaaGreatDoor.Ab
set_option maxRecDepth 100000
namespace Go.Proofs.YtniljpjjnmkoaaaGreatDoor.Ab
open Go.Proofs
def pS : ByteArray := { data := #[112] }
def qS : ByteArray := { data := #[113] }
def fS : ByteArray := { data := #[102] }
def itV (id : Int) (n : ByteArray) (x y : Int) : It := ⟨id, ⟨0, n, [vT x, vT y]⟩⟩
def exA1 : An := ⟨false, [], [⟨0, pS, [vT 0, vT 1]⟩, ⟨0, pS, [vT 1, vT 0]⟩]⟩
def exA2 : An := ⟨false, [.mk 2 0 fS [vT 1]], [⟨0, qS, [vT 1, vT 2]⟩]⟩
def exA3 : An := ⟨true, [], []⟩
def exB2 : List (Int × T) := [(0, .mk 2 0 fS [vT 5])]
theorem Qpe : ofC 0 [] [itV 1 pS 7 9, itV 2 pS 9 7] false = (exA1, 0) := by kernel_rfl
theorem Qoz : ofC 1 exB2 [itV 4 qS 5 3] false = (exA2, 0) := by kernel_rfl
theorem Qo8 : ofC 2 [] [] true = (exA3, 0) := by kernel_rfl
theorem QnM : Qaj 0 [] [itV 1 pS 7 9, itV 2 pS 9 7] = false := by kernel_rfl
theorem QnL : Qaj 1 exB2 [itV 4 qS 5 3] = false := by kernel_rfl
theorem Qoi : Qaj 2 [] [] = false := by kernel_rfl
def tx1 : ByteArray := { data := #[59, 32, 112, 40, 86, 48, 44, 32, 86, 49, 41, 44, 32, 112, 40, 86, 49, 44, 32, 86, 48, 41] }
def tx2 : ByteArray := { data := #[86, 48, 32, 61, 32, 102, 40, 86, 49, 41, 59, 32, 113, 40, 86, 49, 44, 32, 86, 50, 41] }
theorem Qo0 : Yp exA1 = tx1 := by kernel_rfl
theorem QoC : Yp exA2 = tx2 := by kernel_rfl
theorem Qo7 : Yp exA3 = flS := by kernel_rfl
theorem QoW : Yp An.nil = smS := by kernel_rfl
theorem Qo1 : Zn exA1 exA3 = -1 := by kernel_rfl
theorem Qpd : Zn exA2 exA2 = 0 := by kernel_rfl
theorem Qc4 (id : Int) (n : ByteArray) (x y : Int) : Pure Tryz.prog 30 [.i id, .v (.string n), .i x, .i y] (itV id n x y).av := by
 intro h
 have c1 : Pure Tryz.prog 16 [.i x] (vT x).av := Qe6 x
 have c2 : Pure Tryz.prog 16 [.i y] (vT y).av := Qe6 y
 refine Qe Tryz.func30 rfl Tryz.call30 Tryz.ntmps30 (congrArg Array.toList Tryz.results30) (by simp) ?_
 repeat (first | ((first | (with_reducible (first | refine Qa fun K E hK hE => ?_ | refine Qm fun K E hK hE => ?_ | refine Qq c1 ?_ | refine Qu c1 ?_ | refine Qq c2 ?_ | refine Qu c2 ?_))); simp -implicitDefEqProofs only [Qg, Qh, OpW, QI, aop, undef, AS.ev, Qy, AV.QpF, ↓reduceIte, QL, QF, Xy, XR, QK, ei29, zi41, zi45, sp45, ti48, zi48, sp48, seval]) | (with_reducible (first | refine Qc fun K hK => ?_ | refine Qi ?_ | refine Qj ?_ | refine QV ?_ | refine QU ?_ | refine Qk ?_ | refine QB ?_ | refine Qb ?_ | refine Qo ?_ | refine Qw ?_ | refine Qn ?_ | refine Qs ?_ | refine Qv ?_ | refine QO rfl ?_)) | (with_reducible (first | refine hK _ ?_ | (clear hK; refine hK _ ?_) | (clear hK; clear hK; refine hK _ ?_) | (clear hK; clear hK; clear hK; refine hK _ ?_)); clear hK) | (refine Qf rfl ?_; simp only [↓reduceIte, Qqw]) | (intro (b : Bool); cases b))
 simp -implicitDefEqProofs only [Qg, ↓reduceIte, QC, QD, ti48, QC, QD, QE, Ql, Qr, QqC, seval]
 refine Qd (r' := (itV id n x y).av) (htake _ _) ?_ ⟨rfl, rfl⟩
 refine .keep (.agg _ fun a ha => ?_)
 simp only [List.mem_cons, List.not_mem_nil, or_false] at ha
 rcases ha with rfl | rfl | rfl
 ·exact .v _
 ·exact .v _
 ·exact X0 _ [vT x, vT y]
theorem Qn8 (s : ByteArray) (t : T) : Pure Tryz.prog 31 [.v (.string s), .sl 4 [t.av] none] (T.mk 2 0 s [t]).av := by
 intro h
 have h1 : 1 ≤ maxLen := by simp only [maxLen]; omega
 refine Qe Tryz.func31 rfl Tryz.call31 Tryz.ntmps31 (congrArg Array.toList Tryz.results31) (by simp) ?_
 repeat (first | ((first | (with_reducible (first | refine Qa fun K E hK hE => ?_ | refine Qm fun K E hK hE => ?_ | refine QnP ?_))); simp -implicitDefEqProofs only [Qg, Qh, OpW, aop, undef, AS.ev, Qy, AV.QpF, ↓reduceIte, QL, QF, Xy, XR, QK, XA, X6, ei29, ai29, ti41, zi41, sp41, h1, seval]) | (with_reducible (first | refine Qc fun K hK => ?_ | refine Qi ?_ | refine Qj ?_ | refine QV ?_ | refine QU ?_ | refine Qk ?_ | refine QB ?_ | refine Qb ?_ | refine Qo ?_ | refine Qw ?_ | refine Qn ?_ | refine Qs ?_ | refine Qv ?_ | refine QO rfl ?_)) | (with_reducible (first | refine hK _ ?_ | (clear hK; refine hK _ ?_) | (clear hK; clear hK; refine hK _ ?_) | (clear hK; clear hK; clear hK; refine hK _ ?_)); clear hK) | (refine Qf rfl ?_; simp only [↓reduceIte, Qqw]) | (intro (b : Bool); cases b))
 simp -implicitDefEqProofs only [Qg, ↓reduceIte, QC, QD, ti41, QC, QD, QE, Ql, Qr, QqC, seval]
 refine Qd (r' := (T.mk 2 0 s [t]).av) (htake _ _) ?_ ⟨rfl, rfl⟩
 exact .agg rfl (Xa (.keep (.v _)) (Xa (.keep (.v _)) (Xa (.keep (.v _)) (Ya (.tok (Y7 _ [t]))))))
theorem okV (x : Int) (h : i64 x) : (vT x).ok := ⟨by unfold i64; omega, h, by decide, trivial⟩
end Go.Proofs.YtniljpjjnmkoaaaGreatDoor.Ab
set_option maxRecDepth 4000
namespace Go.Proofs.YtniljpjjnmkoaaaGreatDoor.Ab
open Go.Proofs
theorem QoA : SmallC [] [itV 1 pS 7 9, itV 2 pS 9 7] := ⟨by decide, by simp, by simp, by decide, by decide, by
 intro x hx
 simp only [List.mem_cons, List.not_mem_nil, or_false] at hx
 rcases hx with rfl | rfl
 ·exact ⟨okV 7 (by unfold i64; omega), okV 9 (by unfold i64; omega), trivial⟩
 ·exact ⟨okV 9 (by unfold i64; omega), okV 7 (by unfold i64; omega), trivial⟩⟩
theorem Qop : SmallC exB2 [itV 4 qS 5 3] := ⟨by decide, by decide, by
  intro x hx
  simp only [exB2, List.mem_singleton] at hx
  subst hx
  exact ⟨by unfold i64; omega, by unfold i64; omega, by unfold i64; omega, by decide, okV 5 (by unfold i64; omega), trivial⟩, by decide, by decide, by
 intro x hx
 simp only [List.mem_singleton] at hx
 subst hx
 exact ⟨okV 5 (by unfold i64; omega), okV 3 (by unfold i64; omega), trivial⟩⟩
theorem QoQ : SmallC [] [] := ⟨by decide, by simp, by simp, by decide, by simp, by simp⟩
theorem QpC : Pure Tryz.prog 11 [.i 0, .v (.slice none 0 0), .sl 3 [(itV 1 pS 7 9).av, (itV 2 pS 9 7).av] none, .v (.bool false)] (.tup [exA1.av, .i 0]) := by
 have := QhV 0 [] [itV 1 pS 7 9, itV 2 pS 9 7] QoA QnM
 rw [Qpe] at this
 exact Zj (.cons (.refl _) (.cons (.nilS 5) (.cons (.refl _) (.cons (.refl _) .nil)))) this
theorem QpB : Pure Tryz.prog 11 [.i 1, .sl 5 [bav (0, .mk 2 0 fS [vT 5])] none, .sl 3 [(itV 4 qS 5 3).av] none, .v (.bool false)] (.tup [exA2.av, .i 0]) := by
 have := QhV 1 exB2 [itV 4 qS 5 3] Qop QnL
 rw [Qoz] at this
 exact this
theorem Qpz : Pure Tryz.prog 11 [.i 2, .v (.slice none 0 0), .v (.slice none 0 0), .v (.bool true)] (.tup [exA3.av, .i 0]) := by
 have := QfX 2 [] [] QoQ Qoi
 rw [Qo8] at this
 exact Zj (.cons (.refl _) (.cons (.nilS 5) (.cons (.nilS 3) (.cons (.refl _) .nil)))) this
theorem ex_t (a : An) (s : ByteArray) (e : Yp a = s) (hv : a.vals.length ≤ 1000) (hs : a.store.length ≤ 1000) (hga : ∀ g ∈ a.store, g.args.length ≤ 1000000) (h : AH) (hG : Xj h) : Q4 Tryz.prog 23 [a.av] h fun o h' => o = .ret (.v (.string s)) ∧ h' = h := by
 have := Qdw a hv hs hga h hG
 rwa [e] at this
theorem Z1 (h : AH) (hG : Xj h) : Q4 Tryz.prog 10 [] h fun o h' => o = .ret (.b true) ∧ h' = h := by
 have q1 := Qc4 1 pS 7 9
 have q2 := Qc4 2 pS 9 7
 have q3 := Qc4 4 qS 5 3
 have v5 : Pure Tryz.prog 16 [.i 5] (vT 5).av := Qe6 5
 have cf := Qn8 fS (vT 5)
 have c1 := QpC
 have c2 := QpB
 have c3 := Qpz
 have t1 := fun L => ex_t exA1 tx1 Qo0 (by decide) (by decide) (by decide) (h ++ L) (hG.onto L)
 have t2 := fun L => ex_t exA2 tx2 QoC (by decide) (by decide) (by decide) (h ++ L) (hG.onto L)
 have t3 := fun L => ex_t exA3 flS Qo7 (by decide) (by decide) (by decide) (h ++ L) (hG.onto L)
 have t4 : ∀ L, Q4 Tryz.prog 23 [.agg [.v (.bool false), .v (.slice none 0 0), .v (.slice none 0 0)]] (h ++ L) fun o h' => o = .ret (.v (.string smS)) ∧ h' = h ++ L := fun L =>
  Qao (.cons (.agg (.cons (.refl _) (.cons (.nilS 4) (.cons (.nilS 2) .nil)))) .nil) (ex_t An.nil smS QoW (by decide) (by decide) (by decide) (h ++ L) (hG.onto L))
 have k1 := YR exA1 exA3 (by decide) (by decide)
 rw [Qo1] at k1
 have k2 := YR exA2 exA2 (by decide) (by decide)
 rw [Qpd] at k2
 simp only [pS, qS, fS, tx1, tx2, flS, smS] at q1 q2 q3 cf c1 t1 t2 t3 t4
 simp only [bav, qS, fS] at c2
 refine Qe Tryz.func10 rfl Tryz.call10 Tryz.ntmps10 (congrArg Array.toList Tryz.results10) (by simp) ?_
 iterate 16 (try (first | ((first | (with_reducible (first | refine Qa fun K E hK hE => ?_ | refine Qq q1 ?_ | refine Qq q2 ?_ | refine Qq q3 ?_ | refine Qq v5 ?_ | refine Qq cf ?_ | refine Qq c1 ?_ | refine Qq c2 ?_ | refine Qq c3 ?_))); simp -implicitDefEqProofs only [Qg, Qh, OpW, QI, aop, undef, AS.ev, Qy, AV.QpF, ↓reduceIte, QL, QF, Xd, Xy, XR, QK, ei23, ei24, ei29, ti32, zi32, zi41, zi48, zi52, sp52, It.cells, An.cells, An.isAgg, seval]) | ((with_reducible refine hK _ ?_); clear hK)))
 clear q1 q2 q3 v5 cf c1 c2 c3
 have z0 : ((0 : Int) == 0) = true := by decide
 have z1 : ((-1 : Int) == -1) = true := by decide
 (with_reducible refine Qa fun K E hK hE => ?_)
 (try simp only [Qq3]); refine XD 5 (fun K1 hK1 => ?_); simp -implicitDefEqProofs only [Qg, Qh, OpW, aop, AS.ev, ↓reduceIte, QC, QD, aBin, ti32, An.cells, An.isAgg, seval]; (repeat ((((with_reducible refine FunW.ret (FunW.call (t1 _)) ?_)); simp -implicitDefEqProofs only [XI, QI, XH, Nat.reduceLT]))); refine hK1 _ ?_; clear hK1
 (try simp only [QqB, QqJ]); refine XD 6 (fun K1 hK1 => ?_); simp -implicitDefEqProofs only [Qg, Qh, OpW, aop, AS.ev, ↓reduceIte, aBin, seval]; refine hK1 _ ?_; clear hK1
 (try simp only [QqB, QqJ]); refine XD 3 (fun K1 hK1 => ?_); simp -implicitDefEqProofs only [Qg, Qh, OpW, aop, AS.ev, ↓reduceIte, QC, QD, ti32, An.cells, An.isAgg, seval]; (repeat ((((with_reducible refine FunW.ret (FunW.call (t2 _)) ?_)); simp -implicitDefEqProofs only [XI, QI, XH, Nat.reduceLT]))); refine hK1 _ ?_; clear hK1
 (try simp only [QqB, QqJ]); refine XD 6 (fun K1 hK1 => ?_); simp -implicitDefEqProofs only [Qg, Qh, OpW, aop, AS.ev, ↓reduceIte, aBin, seval]; refine hK1 _ ?_; clear hK1
 (try simp only [QqB, QqJ]); refine XD 3 (fun K1 hK1 => ?_); simp -implicitDefEqProofs only [Qg, Qh, OpW, aop, AS.ev, ↓reduceIte, QC, QD, ti32, An.cells, An.isAgg, seval]; (repeat ((((with_reducible refine FunW.ret (FunW.call (t3 _)) ?_)); simp -implicitDefEqProofs only [XI, QI, XH, Nat.reduceLT]))); refine hK1 _ ?_; clear hK1
 (try simp only [QqB, QqJ]); refine XD 5 (fun K1 hK1 => ?_); simp -implicitDefEqProofs only [Qg, Qh, OpW, aop, AS.ev, ↓reduceIte, QC, QD, aBin, ti32, An.cells, An.isAgg, seval]; refine hK1 _ ?_; clear hK1
 (try simp only [QqB, QqJ]); refine XD 3 (fun K1 hK1 => ?_); simp -implicitDefEqProofs only [Qg, Qh, OpW, AS.ev, ↓reduceIte, Nat.reduceEqDiff]; (repeat ((((with_reducible refine Qq k1 ?_)); simp -implicitDefEqProofs only [Qg, Qh, OpW, QI, aop, AS.ev, ↓reduceIte, aBin, seval]))); refine hK1 _ ?_; clear hK1
 (try simp only [QqB, QqJ]); refine XD 3 (fun K1 hK1 => ?_); simp -implicitDefEqProofs only [Qg, Qh, OpW, aop, AS.ev, ↓reduceIte, QC, QD, ti32, An.cells, An.isAgg, seval]; refine hK1 _ ?_; clear hK1
 (try simp only [QqB, QqJ]); refine XD 3 (fun K1 hK1 => ?_); simp -implicitDefEqProofs only [Qg, Qh, OpW, AS.ev, ↓reduceIte, Nat.reduceEqDiff]; (repeat ((((with_reducible refine Qq k2 ?_)); simp -implicitDefEqProofs only [Qg, Qh, OpW, QI, aop, AS.ev, ↓reduceIte, aBin, seval]))); refine hK1 _ ?_; clear hK1
 (try simp only [QqB, QqJ]); refine XD 2 (fun K1 hK1 => ?_); simp -implicitDefEqProofs only [Qg, Qh, OpW, aop, undef, AS.ev, Qy, AV.QpF, ↓reduceIte, Nat.reduceLT, Xy, XR, zi32, sp32]; refine hK1 _ ?_; clear hK1
 (try simp only [QqB, QqJ])
 simp -implicitDefEqProofs only [Qg, Qh, OpW, AS.ev, ↓reduceIte, Nat.reduceEqDiff]
 repeat (first | (((with_reducible refine FunW.ret (FunW.call (t4 _)) ?_)); simp -implicitDefEqProofs only [Qg, Qh, OpW, QI, aop, AS.ev, ↓reduceIte, aBin, seval]) | (with_reducible refine Qj ?_) | ((with_reducible refine hK _ ?_); clear hK))
 simp only [QE, Ql, Qr, upd, ↓reduceIte, Qqy, QqC]
 exact Qd (htake _ _) (.keep (.v _)) ⟨rfl, rfl⟩
end Go.Proofs.YtniljpjjnmkoaaaGreatDoor.Ab
set_option maxRecDepth 4000
namespace Go.Proofs.YtniljpjjnmkoaaaGreatDoor.Ab
open Go.Proofs
theorem Qct (a b : Int) : Pure Tryz.prog 54 [.i a, .i b] (.i (cmpI a b)) := by
 intro h
 by_cases h1 : a < b
 ·have e : cmpI a b = -1 := by rw [cmpI, if_pos h1]
  rw [e]
  refine Qe Tryz.func54 rfl Tryz.call54 Tryz.ntmps54 (congrArg Array.toList Tryz.results54) (by simp) ?_
  repeat (first | (((with_reducible refine Qa fun K E hK hE => ?_)); simp -implicitDefEqProofs only [Qg, Qh, OpW, aop, undef, AS.ev, Qy, ↓reduceIte, aBin, h1, seval]) | (with_reducible (first | refine Qc fun K hK => ?_ | refine Qi ?_ | refine Qj ?_ | refine Qo ?_ | refine Qs ?_)) | ((with_reducible refine hK _ ?_); clear hK) | (refine Qf rfl ?_; simp only [↓reduceIte]))
  simp only [QE, Ql, Qr, upd, ↓reduceIte, Qqy, QqC]; first | refine Qd (htake _ _) (.keep (.v _)) ⟨rfl, rfl⟩ | refine Qd List.take_length (.keep (.v _)) ⟨rfl, rfl⟩
 ·by_cases h2 : a > b
  ·have e : cmpI a b = 1 := by rw [cmpI, if_neg h1, if_pos h2]
   rw [e]
   refine Qe Tryz.func54 rfl Tryz.call54 Tryz.ntmps54 (congrArg Array.toList Tryz.results54) (by simp) ?_
   repeat (first | (((with_reducible refine Qa fun K E hK hE => ?_)); simp -implicitDefEqProofs only [Qg, Qh, OpW, aop, undef, AS.ev, Qy, ↓reduceIte, aBin, h1, h2, seval]) | (with_reducible (first | refine Qc fun K hK => ?_ | refine Qi ?_ | refine Qj ?_ | refine Qo ?_ | refine Qs ?_)) | ((with_reducible refine hK _ ?_); clear hK) | (refine Qf rfl ?_; simp only [↓reduceIte, Qqw]))
   simp only [QE, Ql, Qr, upd, ↓reduceIte, Qqy, QqC]; first | refine Qd (htake _ _) (.keep (.v _)) ⟨rfl, rfl⟩ | refine Qd List.take_length (.keep (.v _)) ⟨rfl, rfl⟩
  ·have e : cmpI a b = 0 := by rw [cmpI, if_neg h1, if_neg h2]
   rw [e]
   refine Qe Tryz.func54 rfl Tryz.call54 Tryz.ntmps54 (congrArg Array.toList Tryz.results54) (by simp) ?_
   repeat (first | (((with_reducible refine Qa fun K E hK hE => ?_)); simp -implicitDefEqProofs only [Qg, Qh, OpW, aop, undef, AS.ev, Qy, ↓reduceIte, aBin, h1, h2, seval]) | (with_reducible (first | refine Qc fun K hK => ?_ | refine Qi ?_ | refine Qj ?_ | refine Qk ?_ | refine Qb ?_ | refine Qn ?_)) | ((with_reducible refine hK _ ?_); clear hK) | (refine Qf rfl ?_; simp only [↓reduceIte, Qqw]))
   simp only [QE, Ql, Qr, upd, ↓reduceIte, Qqy, QqC]; first | refine Qd (htake _ _) (.keep (.v _)) ⟨rfl, rfl⟩ | refine Qd List.take_length (.keep (.v _)) ⟨rfl, rfl⟩
theorem Qk6 {l m : List T} {k : Nat} (h1 : k ≤ l.length) (h2 : k ≤ m.length) (h : ¬ (k < l.length ∧ k < m.length)) : cmpL (l.drop k) (m.drop k) = cmpI l.length m.length := by
 by_cases hl : k < l.length
 ·have hm : k = m.length := by omega
  rw [hm, List.drop_length, List.drop_eq_getElem_cons (by omega), cmpL, cmpI, if_neg (by omega), if_pos (by omega)]
 ·have hkl : k = l.length := by omega
  rw [hkl, List.drop_length]
  by_cases hm : l.length < m.length
  ·rw [List.drop_eq_getElem_cons hm, cmpL, cmpI, if_pos (by omega)]
  ·have : l.length = m.length := by omega
   rw [this, List.drop_length, cmpL, cmpI, if_neg (by omega), if_neg (by omega)]
theorem QeI {l m : List G} {k : Nat} (h1 : k ≤ l.length) (h2 : k ≤ m.length) (h : ¬ (k < l.length ∧ k < m.length)) : Xv (l.drop k) (m.drop k) = cmpI l.length m.length := by
 by_cases hl : k < l.length
 ·have hm : k = m.length := by omega
  rw [hm, List.drop_length, List.drop_eq_getElem_cons (by omega), Xv, cmpI, if_neg (by omega), if_pos (by omega)]
 ·have hkl : k = l.length := by omega
  rw [hkl, List.drop_length]
  by_cases hm : l.length < m.length
  ·rw [List.drop_eq_getElem_cons hm, Xv, cmpI, if_pos (by omega)]
  ·have : l.length = m.length := by omega
   rw [this, List.drop_length, Xv, cmpI, if_neg (by omega), if_neg (by omega)]
theorem Z0 (f : Bool) (v v' : List T) (l l' : List G) (hv : ndsL v ≤ 1000000) (hs : gsN l ≤ 1000000) : Pure Tryz.prog 22 [(An.mk f v l).av, (An.mk f v' l').av] (.i (lexI (cmpL v v') (Xv l l'))) := by
 intro h
 have hll := QZ v
 have hgl := Zo l
 have hbn : ∀ xo yo, pv Tryz.prog (do eqGuard .neq 4 xo yo (.bool f) (.bool f); binOp .neq 4 (.bool f) (.bool f)) = some (.bool false) := by intro xo yo; cases f <;> rfl
 have cl1 := Qct v.length v'.length
 have cl2 := Qct l.length l'.length
 refine Qe Tryz.func22 rfl Tryz.call22 Tryz.ntmps22 (congrArg Array.toList Tryz.results22) (by simp) ?_
 repeat (first | (((with_reducible refine Qa fun K E hK hE => ?_)); simp -implicitDefEqProofs only [Qg, Qh, OpW, aop, undef, AS.ev, Qy, AV.QpF, ↓reduceIte, Qp, QC, QD, aBin, ti4, Z8, An.cells, hbn, seval]) | (with_reducible (first | refine Qc fun K hK => ?_ | refine Qi ?_ | refine Qk ?_ | refine Qb ?_)) | ((with_reducible refine hK _ ?_); clear hK) | (refine Qf rfl ?_; simp only [↓reduceIte, Qqw]))
 obtain ⟨I, hI⟩ : ∃ I : Nat → AS → Prop, I = fun m' s => ∃ (k : Nat), m' = v.length - k ∧ k ≤ v.length ∧ k ≤ v'.length ∧ cmpL v v' = cmpL (v.drop k) (v'.drop k) ∧ s.tm 2 = .ptr h.length 0 0 ∧ s.tm 3 = .ptr (h.length + 1) 0 0 ∧ s.tm 5 = .i k ∧ s.h = h ++ [.cells 32 3 [(An.mk f v l).av], .cells 32 3 [(An.mk f v' l').av]] := ⟨_, rfl⟩; refine QJ I ?_ (m := v.length) ?_
 ·intro m' s hs; rw [hI] at hs; obtain ⟨tm, hp⟩ := s; dsimp only at hs; obtain ⟨k, rfl, hk, hk2, hor, t2, t3, t5, rfl⟩ := hs
  by_cases hlt : k < v.length ∧ k < v'.length
  ·obtain ⟨hlt1, hlt2⟩ := hlt
   have hd := QbH hlt1 hlt2
   have hc := Yj 1000000 (Nat.le_refl _) v[k] v'[k] (Nat.le_trans (YD hlt1) hv)
   cases ha : (cmpT v[k] v'[k] != 0) with
   | true =>
    rw [if_pos ha] at hd
    have e : lexI (cmpL v v') (Xv l l') = cmpT v[k] v'[k] := by rw [hor, hd, lexI, if_pos ha]
    repeat (first | ((first | (with_reducible (first | refine Qa fun K E hK hE => ?_ | refine Qu hc ?_)) | (refine Qt (id := 8) [(0, 0), (1, 0), (2, 0), (3, 0), (4, 0), (5, 0), (6, 0), (7, 0), (8, 0), (9, 0), (10, 1), (11, 0)] mixed (by kernel_rfl) fun K hK => ?_)); simp -implicitDefEqProofs only [Qg, Qh, OpW, aop, AS.ev, ↓reduceIte, Qp, QC, QD, Qz, aBin, aLen, goInt, ti29, ei29, un29, ZN, ti41, An.cells, t2, t3, t5, hlt1, hlt2, Xc hlt1, Xc hlt2, ha, seval]) | (with_reducible (first | refine Qc fun K hK => ?_ | refine Qi ?_ | refine Qj ?_ | refine Qk ?_ | refine Qb ?_ | refine Qo ?_ | refine Qs ?_)) | ((with_reducible refine hK _ ?_); clear hK) | (refine Qf rfl ?_; simp only [↓reduceIte]))
    simp only [QE, Ql, Qr, upd, ↓reduceIte, Qqy, QqC]; first | refine Qd (htake _ _) (.keep (.v _)) ⟨by rw [e], rfl⟩ | refine Qd List.take_length (.keep (.v _)) ⟨by rw [e], rfl⟩
   | false =>
    repeat (first | ((first | (with_reducible (first | refine Qa fun K E hK hE => ?_ | refine Qm fun K E hK hE => ?_ | refine Qu hc ?_)) | (refine Qt (id := 8) [(0, 0), (1, 0), (2, 0), (3, 0), (4, 0), (5, 0), (6, 0), (7, 0), (8, 0), (9, 0), (10, 1), (11, 0)] mixed (by kernel_rfl) fun K hK => ?_)); simp -implicitDefEqProofs only [Qg, Qh, OpW, aop, AS.ev, ↓reduceIte, Qp, QC, QD, Qz, aBin, aLen, goInt, ti29, ei29, un29, ZN, ti41, An.cells, t2, t3, t5, hlt1, hlt2, Xc hlt1, Xc hlt2, ha, seval]) | (with_reducible (first | refine Qc fun K hK => ?_ | refine Qi ?_ | refine Qk ?_ | refine Qb ?_ | refine Qn ?_)) | ((with_reducible refine hK _ ?_); clear hK) | (refine Qf rfl ?_; simp only [↓reduceIte, Qqw]))
    refine Q1.mk (m' := v.length - (k + 1)) (by omega) ?_
    rw [hI]
    refine ⟨k + 1, rfl, hlt1, hlt2, ?_, t2, t3, ?_, rfl⟩
    ·rw [hor, hd, ha]; rfl
    ·simp only [upd, ↓reduceIte]
     rw [QP (by omega)]
  ·have hz := Qk6 hk hk2 hlt
   rw [← hor] at hz
   by_cases hl1 : k < v.length
   ·have hl2 : ¬ k < v'.length := fun q => hlt ⟨hl1, q⟩
    cases hq : (cmpI v.length v'.length != 0) with
    | true =>
     have e : lexI (cmpL v v') (Xv l l') = cmpI v.length v'.length := by rw [hz, lexI, if_pos hq]
     repeat (first | ((first | (with_reducible (first | refine Qa fun K E hK hE => ?_ | refine Qq cl1 ?_))); simp -implicitDefEqProofs only [Qg, Qh, OpW, QI, aop, AS.ev, ↓reduceIte, Qp, QC, QD, aBin, aLen, goInt, ti29, un29, ZN, An.cells, t2, t3, t5, hl1, hl2, hq, seval]) | (with_reducible (first | refine Qc fun K hK => ?_ | refine Qj ?_ | refine QB ?_ | refine Qb ?_ | refine Qo ?_ | refine Qw ?_ | refine Qv ?_)) | ((with_reducible refine hK _ ?_); clear hK) | (clear hK; (with_reducible refine hK _ ?_); clear hK) | (refine Qf rfl ?_; simp only [↓reduceIte, Qqw]))
     simp only [QE, Ql, Qr, upd, ↓reduceIte, Qqy, QqC]; first | refine Qd (htake _ _) (.keep (.v _)) ⟨by rw [e], rfl⟩ | refine Qd List.take_length (.keep (.v _)) ⟨by rw [e], rfl⟩
    | false =>
     have e0 : lexI (cmpL v v') (Xv l l') = Xv l l' := by rw [hz, lexI, hq]; rfl
     repeat (first | ((first | (with_reducible (first | refine Qa fun K E hK hE => ?_ | refine Qq cl1 ?_))); simp -implicitDefEqProofs only [Qg, Qh, OpW, QI, aop, AS.ev, ↓reduceIte, Qp, QC, QD, aBin, aLen, goInt, ti29, un29, ZN, An.cells, t2, t3, t5, hl1, hl2, hq, seval]) | (with_reducible (first | refine Qc fun K hK => ?_ | refine Qi ?_ | refine Qk ?_ | refine QB ?_ | refine Qb ?_ | refine Qw ?_ | refine Qv ?_)) | ((with_reducible refine hK _ ?_); clear hK) | (clear hK; (with_reducible refine hK _ ?_); clear hK) | (refine Qf rfl ?_; simp only [↓reduceIte, Qqw]))
     obtain ⟨I, hI⟩ : ∃ I : Nat → AS → Prop, I = fun m' s => ∃ (k : Nat), m' = l.length - k ∧ k ≤ l.length ∧ k ≤ l'.length ∧ Xv l l' = Xv (l.drop k) (l'.drop k) ∧ s.tm 2 = .ptr h.length 0 0 ∧ s.tm 3 = .ptr (h.length + 1) 0 0 ∧ s.tm 8 = .i k ∧ s.h = h ++ [.cells 32 3 [(An.mk f v l).av], .cells 32 3 [(An.mk f v' l').av]] := ⟨_, rfl⟩; refine QJ I ?_ (m := l.length) ?_
     ·intro m' s hs; rw [hI] at hs; obtain ⟨tm, hp⟩ := s; dsimp only at hs; obtain ⟨k, rfl, hk, hk2, hor, t2, t3, t8, rfl⟩ := hs
      by_cases hlt : k < l.length ∧ k < l'.length
      ·obtain ⟨hlt1, hlt2⟩ := hlt
       have hd := QbL hlt1 hlt2
       have hc := YX l[k] l'[k] (Nat.le_trans (QbU hlt1) hs)
       cases ha : (cmpG l[k] l'[k] != 0) with
       | true =>
        rw [if_pos ha] at hd
        have e : lexI (cmpL v v') (Xv l l') = cmpG l[k] l'[k] := by rw [e0, hor, hd]
        repeat (first | ((first | (with_reducible (first | refine Qa fun K E hK hE => ?_ | refine Qu hc ?_)) | (refine Qt (id := 17) [(0, 0), (1, 0), (2, 0), (3, 0), (4, 0), (5, 0), (6, 0), (7, 0), (8, 0), (9, 0), (10, 1), (11, 0)] mixed (by kernel_rfl) fun K hK => ?_)); simp -implicitDefEqProofs only [Qg, Qh, OpW, aop, AS.ev, ↓reduceIte, Qp, QC, QD, Qz, aBin, aLen, goInt, ti30, ei30, un30, YF, ti45, An.cells, t2, t3, t8, hlt1, hlt2, QN, XN G.atom hlt1, XN G.atom hlt2, QQ, Q6, ha, seval]) | (with_reducible (first | refine Qc fun K hK => ?_ | refine Qi ?_ | refine Qj ?_ | refine Qk ?_ | refine Qb ?_ | refine Qo ?_ | refine Qs ?_)) | ((with_reducible refine hK _ ?_); clear hK) | (refine Qf rfl ?_; simp only [↓reduceIte]))
        simp only [QE, Ql, Qr, upd, ↓reduceIte, Qqy, QqC]; first | refine Qd (htake _ _) (.keep (.v _)) ⟨by rw [e], rfl⟩ | refine Qd List.take_length (.keep (.v _)) ⟨by rw [e], rfl⟩
       | false =>
        repeat (first | ((first | (with_reducible (first | refine Qa fun K E hK hE => ?_ | refine Qm fun K E hK hE => ?_ | refine Qu hc ?_)) | (refine Qt (id := 17) [(0, 0), (1, 0), (2, 0), (3, 0), (4, 0), (5, 0), (6, 0), (7, 0), (8, 0), (9, 0), (10, 1), (11, 0)] mixed (by kernel_rfl) fun K hK => ?_)); simp -implicitDefEqProofs only [Qg, Qh, OpW, aop, AS.ev, ↓reduceIte, Qp, QC, QD, Qz, aBin, aLen, goInt, ti30, ei30, un30, YF, ti45, An.cells, t2, t3, t8, hlt1, hlt2, QN, XN G.atom hlt1, XN G.atom hlt2, QQ, Q6, ha, seval]) | (with_reducible (first | refine Qc fun K hK => ?_ | refine Qi ?_ | refine Qk ?_ | refine Qb ?_ | refine Qn ?_)) | ((with_reducible refine hK _ ?_); clear hK) | (refine Qf rfl ?_; simp only [↓reduceIte, Qqw]))
        refine Q1.mk (m' := l.length - (k + 1)) (by omega) ?_
        rw [hI]
        refine ⟨k + 1, rfl, hlt1, hlt2, ?_, t2, t3, ?_, rfl⟩
        ·rw [hor, hd, ha]; rfl
        ·simp only [upd, ↓reduceIte]
         rw [QP (by omega)]
      ·have hz2 := QeI hk hk2 hlt
       rw [← hor] at hz2
       by_cases hl1 : k < l.length
       ·have hl2 : ¬ k < l'.length := fun q => hlt ⟨hl1, q⟩
        repeat (first | ((first | (with_reducible (first | refine Qa fun K E hK hE => ?_ | refine Qq cl2 ?_))); simp -implicitDefEqProofs only [Qg, Qh, OpW, QI, aop, AS.ev, ↓reduceIte, Qp, QC, QD, aBin, aLen, goInt, ti30, un30, YF, An.cells, t2, t3, t8, QN, hl1, hl2, seval]) | (with_reducible (first | refine Qc fun K hK => ?_ | refine Qj ?_ | refine QB ?_ | refine Qb ?_ | refine Qw ?_ | refine Qv ?_)) | ((with_reducible refine hK _ ?_); clear hK) | (clear hK; (with_reducible refine hK _ ?_); clear hK) | (refine Qf rfl ?_; simp only [↓reduceIte, Qqw]))
        simp only [QE, Ql, Qr, upd, ↓reduceIte, Qqy, QqC]; first | refine Qd (htake _ _) (.keep (.v _)) ⟨by rw [e0, hz2], rfl⟩ | refine Qd List.take_length (.keep (.v _)) ⟨by rw [e0, hz2], rfl⟩
       ·repeat (first | ((first | (with_reducible (first | refine Qa fun K E hK hE => ?_ | refine Qq cl2 ?_))); simp -implicitDefEqProofs only [Qg, Qh, OpW, QI, aop, undef, AS.ev, ↓reduceIte, Qp, QC, QD, aBin, aLen, goInt, ti30, un30, YF, An.cells, t2, t3, t8, QN, hl1, seval]) | (with_reducible (first | refine Qc fun K hK => ?_ | refine Qj ?_ | refine QB ?_ | refine Qb ?_ | refine Qw ?_ | refine Qv ?_)) | ((with_reducible refine hK _ ?_); clear hK) | (clear hK; (with_reducible refine hK _ ?_); clear hK) | (refine Qf rfl ?_; simp only [↓reduceIte, Qqw]))
        simp only [QE, Ql, Qr, upd, ↓reduceIte, Qqy, QqC]; first | refine Qd (htake _ _) (.keep (.v _)) ⟨by rw [e0, hz2], rfl⟩ | refine Qd List.take_length (.keep (.v _)) ⟨by rw [e0, hz2], rfl⟩
     ·rw [hI]
      exact ⟨0, by omega, Nat.zero_le _, Nat.zero_le _, rfl, t2, t3, rfl, rfl⟩
   ·cases hq : (cmpI v.length v'.length != 0) with
    | true =>
     have e : lexI (cmpL v v') (Xv l l') = cmpI v.length v'.length := by rw [hz, lexI, if_pos hq]
     repeat (first | ((first | (with_reducible (first | refine Qa fun K E hK hE => ?_ | refine Qq cl1 ?_))); simp -implicitDefEqProofs only [Qg, Qh, OpW, QI, aop, undef, AS.ev, ↓reduceIte, Qp, QC, QD, aBin, aLen, goInt, ti29, un29, ZN, An.cells, t2, t3, t5, hl1, hq, seval]) | (with_reducible (first | refine Qc fun K hK => ?_ | refine Qj ?_ | refine QB ?_ | refine Qb ?_ | refine Qo ?_ | refine Qw ?_ | refine Qv ?_)) | ((with_reducible refine hK _ ?_); clear hK) | (clear hK; (with_reducible refine hK _ ?_); clear hK) | (refine Qf rfl ?_; simp only [↓reduceIte, Qqw]))
     simp only [QE, Ql, Qr, upd, ↓reduceIte, Qqy, QqC]; first | refine Qd (htake _ _) (.keep (.v _)) ⟨by rw [e], rfl⟩ | refine Qd List.take_length (.keep (.v _)) ⟨by rw [e], rfl⟩
    | false =>
     have e0 : lexI (cmpL v v') (Xv l l') = Xv l l' := by rw [hz, lexI, hq]; rfl
     repeat (first | ((first | (with_reducible (first | refine Qa fun K E hK hE => ?_ | refine Qq cl1 ?_))); simp -implicitDefEqProofs only [Qg, Qh, OpW, QI, aop, undef, AS.ev, ↓reduceIte, Qp, QC, QD, aBin, aLen, goInt, ti29, un29, ZN, An.cells, t2, t3, t5, hl1, hq, seval]) | (with_reducible (first | refine Qc fun K hK => ?_ | refine Qi ?_ | refine Qk ?_ | refine QB ?_ | refine Qb ?_ | refine Qw ?_ | refine Qv ?_)) | ((with_reducible refine hK _ ?_); clear hK) | (clear hK; (with_reducible refine hK _ ?_); clear hK) | (refine Qf rfl ?_; simp only [↓reduceIte, Qqw]))
     obtain ⟨I, hI⟩ : ∃ I : Nat → AS → Prop, I = fun m' s => ∃ (k : Nat), m' = l.length - k ∧ k ≤ l.length ∧ k ≤ l'.length ∧ Xv l l' = Xv (l.drop k) (l'.drop k) ∧ s.tm 2 = .ptr h.length 0 0 ∧ s.tm 3 = .ptr (h.length + 1) 0 0 ∧ s.tm 8 = .i k ∧ s.h = h ++ [.cells 32 3 [(An.mk f v l).av], .cells 32 3 [(An.mk f v' l').av]] := ⟨_, rfl⟩; refine QJ I ?_ (m := l.length) ?_
     ·intro m' s hs; rw [hI] at hs; obtain ⟨tm, hp⟩ := s; dsimp only at hs; obtain ⟨k, rfl, hk, hk2, hor, t2, t3, t8, rfl⟩ := hs
      by_cases hlt : k < l.length ∧ k < l'.length
      ·obtain ⟨hlt1, hlt2⟩ := hlt
       have hd := QbL hlt1 hlt2
       have hc := YX l[k] l'[k] (Nat.le_trans (QbU hlt1) hs)
       cases ha : (cmpG l[k] l'[k] != 0) with
       | true =>
        rw [if_pos ha] at hd
        have e : lexI (cmpL v v') (Xv l l') = cmpG l[k] l'[k] := by rw [e0, hor, hd]
        repeat (first | ((first | (with_reducible (first | refine Qa fun K E hK hE => ?_ | refine Qu hc ?_)) | (refine Qt (id := 17) [(0, 0), (1, 0), (2, 0), (3, 0), (4, 0), (5, 0), (6, 0), (7, 0), (8, 0), (9, 0), (10, 1), (11, 0)] mixed (by kernel_rfl) fun K hK => ?_)); simp -implicitDefEqProofs only [Qg, Qh, OpW, aop, AS.ev, ↓reduceIte, Qp, QC, QD, Qz, aBin, aLen, goInt, ti30, ei30, un30, YF, ti45, An.cells, t2, t3, t8, hlt1, hlt2, QN, XN G.atom hlt1, XN G.atom hlt2, QQ, Q6, ha, seval]) | (with_reducible (first | refine Qc fun K hK => ?_ | refine Qi ?_ | refine Qj ?_ | refine Qk ?_ | refine Qb ?_ | refine Qo ?_ | refine Qs ?_)) | ((with_reducible refine hK _ ?_); clear hK) | (refine Qf rfl ?_; simp only [↓reduceIte]))
        simp only [QE, Ql, Qr, upd, ↓reduceIte, Qqy, QqC]; first | refine Qd (htake _ _) (.keep (.v _)) ⟨by rw [e], rfl⟩ | refine Qd List.take_length (.keep (.v _)) ⟨by rw [e], rfl⟩
       | false =>
        repeat (first | ((first | (with_reducible (first | refine Qa fun K E hK hE => ?_ | refine Qm fun K E hK hE => ?_ | refine Qu hc ?_)) | (refine Qt (id := 17) [(0, 0), (1, 0), (2, 0), (3, 0), (4, 0), (5, 0), (6, 0), (7, 0), (8, 0), (9, 0), (10, 1), (11, 0)] mixed (by kernel_rfl) fun K hK => ?_)); simp -implicitDefEqProofs only [Qg, Qh, OpW, aop, AS.ev, ↓reduceIte, Qp, QC, QD, Qz, aBin, aLen, goInt, ti30, ei30, un30, YF, ti45, An.cells, t2, t3, t8, hlt1, hlt2, QN, XN G.atom hlt1, XN G.atom hlt2, QQ, Q6, ha, seval]) | (with_reducible (first | refine Qc fun K hK => ?_ | refine Qi ?_ | refine Qk ?_ | refine Qb ?_ | refine Qn ?_)) | ((with_reducible refine hK _ ?_); clear hK) | (refine Qf rfl ?_; simp only [↓reduceIte, Qqw]))
        refine Q1.mk (m' := l.length - (k + 1)) (by omega) ?_
        rw [hI]
        refine ⟨k + 1, rfl, hlt1, hlt2, ?_, t2, t3, ?_, rfl⟩
        ·rw [hor, hd, ha]; rfl
        ·simp only [upd, ↓reduceIte]
         rw [QP (by omega)]
      ·have hz2 := QeI hk hk2 hlt
       rw [← hor] at hz2
       by_cases hl1 : k < l.length
       ·have hl2 : ¬ k < l'.length := fun q => hlt ⟨hl1, q⟩
        repeat (first | ((first | (with_reducible (first | refine Qa fun K E hK hE => ?_ | refine Qq cl2 ?_))); simp -implicitDefEqProofs only [Qg, Qh, OpW, QI, aop, AS.ev, ↓reduceIte, Qp, QC, QD, aBin, aLen, goInt, ti30, un30, YF, An.cells, t2, t3, t8, QN, hl1, hl2, seval]) | (with_reducible (first | refine Qc fun K hK => ?_ | refine Qj ?_ | refine QB ?_ | refine Qb ?_ | refine Qw ?_ | refine Qv ?_)) | ((with_reducible refine hK _ ?_); clear hK) | (clear hK; (with_reducible refine hK _ ?_); clear hK) | (refine Qf rfl ?_; simp only [↓reduceIte, Qqw]))
        simp only [QE, Ql, Qr, upd, ↓reduceIte, Qqy, QqC]; first | refine Qd (htake _ _) (.keep (.v _)) ⟨by rw [e0, hz2], rfl⟩ | refine Qd List.take_length (.keep (.v _)) ⟨by rw [e0, hz2], rfl⟩
       ·repeat (first | ((first | (with_reducible (first | refine Qa fun K E hK hE => ?_ | refine Qq cl2 ?_))); simp -implicitDefEqProofs only [Qg, Qh, OpW, QI, aop, undef, AS.ev, ↓reduceIte, Qp, QC, QD, aBin, aLen, goInt, ti30, un30, YF, An.cells, t2, t3, t8, QN, hl1, seval]) | (with_reducible (first | refine Qc fun K hK => ?_ | refine Qj ?_ | refine QB ?_ | refine Qb ?_ | refine Qw ?_ | refine Qv ?_)) | ((with_reducible refine hK _ ?_); clear hK) | (clear hK; (with_reducible refine hK _ ?_); clear hK) | (refine Qf rfl ?_; simp only [↓reduceIte, Qqw]))
        simp only [QE, Ql, Qr, upd, ↓reduceIte, Qqy, QqC]; first | refine Qd (htake _ _) (.keep (.v _)) ⟨by rw [e0, hz2], rfl⟩ | refine Qd List.take_length (.keep (.v _)) ⟨by rw [e0, hz2], rfl⟩
     ·rw [hI]
      exact ⟨0, by omega, Nat.zero_le _, Nat.zero_le _, rfl, t2, t3, rfl, rfl⟩
 ·rw [hI]
  exact ⟨0, by omega, Nat.zero_le _, Nat.zero_le _, rfl, rfl, rfl, rfl, rfl⟩
theorem QbG (a b : An) (hv : ndsL a.vals ≤ 1000000) (hs : gsN a.store ≤ 1000000) : Pure Tryz.prog 22 [a.av, b.av] (.i (Zn a b)) := by
 obtain ⟨f, v, l⟩ := a
 obtain ⟨f', v', l'⟩ := b
 cases f <;> cases f'
 ·exact Z0 false v v' l l' hv hs
 ·intro h
  have hbn : ∀ xo yo, pv Tryz.prog (do eqGuard .neq 4 xo yo (.bool false) (.bool true); binOp .neq 4 (.bool false) (.bool true)) = some (.bool true) := by intro xo yo; rfl
  have e : Zn ⟨false, v, l⟩ ⟨true, v', l'⟩ = -1 := rfl
  rw [e]
  refine Qe Tryz.func22 rfl Tryz.call22 Tryz.ntmps22 (congrArg Array.toList Tryz.results22) (by simp) ?_
  repeat (first | (((with_reducible refine Qa fun K E hK hE => ?_)); simp -implicitDefEqProofs only [Qg, Qh, OpW, aop, undef, AS.ev, Qy, AV.QpF, ↓reduceIte, Qp, QC, QD, aBin, ti4, Z8, An.cells, hbn, seval]) | (with_reducible (first | refine Qc fun K hK => ?_ | refine Qj ?_ | refine Qo ?_)) | ((with_reducible refine hK _ ?_); clear hK) | (refine Qf rfl ?_; simp only [↓reduceIte]))
  simp only [QE, Ql, Qr, upd, ↓reduceIte, Qqy, QqC]; first | refine Qd (htake _ _) (.keep (.v _)) ⟨rfl, rfl⟩ | refine Qd List.take_length (.keep (.v _)) ⟨rfl, rfl⟩
 ·intro h
  have hbn : ∀ xo yo, pv Tryz.prog (do eqGuard .neq 4 xo yo (.bool true) (.bool false); binOp .neq 4 (.bool true) (.bool false)) = some (.bool true) := by intro xo yo; rfl
  have e : Zn ⟨true, v, l⟩ ⟨false, v', l'⟩ = 1 := rfl
  rw [e]
  refine Qe Tryz.func22 rfl Tryz.call22 Tryz.ntmps22 (congrArg Array.toList Tryz.results22) (by simp) ?_
  repeat (first | (((with_reducible refine Qa fun K E hK hE => ?_)); simp -implicitDefEqProofs only [Qg, Qh, OpW, aop, undef, AS.ev, Qy, AV.QpF, ↓reduceIte, Qp, QC, QD, aBin, ti4, Z8, An.cells, hbn, seval]) | (with_reducible (first | refine Qc fun K hK => ?_ | refine Qj ?_ | refine Qk ?_ | refine Qb ?_ | refine Qo ?_)) | ((with_reducible refine hK _ ?_); clear hK) | (refine Qf rfl ?_; simp only [↓reduceIte, Qqw]))
  simp only [QE, Ql, Qr, upd, ↓reduceIte, Qqy, QqC]; first | refine Qd (htake _ _) (.keep (.v _)) ⟨rfl, rfl⟩ | refine Qd List.take_length (.keep (.v _)) ⟨rfl, rfl⟩
 ·exact Z0 true v v' l l' hv hs
end Go.Proofs.YtniljpjjnmkoaaaGreatDoor.Ab
set_option maxRecDepth 4000
namespace Go.Proofs.YtniljpjjnmkoaaaGreatDoor.Ab
open Go.Proofs
structure An.ok (a : An) : Prop where
 v : oks a.vals
 s : ∀ g ∈ a.store, g.ok
 vl : a.vals.length ≤ 9223372036854775807
 sl : a.store.length ≤ 9223372036854775807
def biI (b : Bool) : Int := if b = true then 1 else 0
theorem QcT (a b : An) : Zn a b = lexI (cmpI (biI a.failed) (biI b.failed)) (cmpA a.ct b.ct) := by
 obtain ⟨f, v, l⟩ := a
 obtain ⟨f', v', l'⟩ := b
 cases f <;> cases f' <;> rfl
theorem QjT (a b : An) : Zn b a = -Zn a b := by rw [QcT, QcT, YH (biI a.failed), ordA.anti a.ct, Yd]
theorem Qj8 (a : An) : Zn a a = 0 := by have := QjT a a; omega
end Go.Proofs.YtniljpjjnmkoaaaGreatDoor.Ab
namespace Go.Proofs.YtniljpjjnmkoaaaGreatDoor.Ab
open Go.Proofs
def G.aok (g : G) : Prop := g.op = 0 ∧ g.ok
theorem QiA {n : Int} (h : (Lit.int .i64 n).wf = true) : i64 n := by
 simpa [Lit.wf, IntKind.min, IntKind.max, IntKind.signed, IntKind.bits, i64] using h
theorem QlQ : ∀ (l : List T), (∀ t ∈ l, t.ok) → oks l
 | [], _ => trivial
 | t :: l, h => ⟨h t (by simp), QlQ l fun x hx => h x (by simp [hx])⟩
theorem QnC {n : Nat} (h : n ≤ maxLen) : n ≤ 9223372036854775807 := by simp only [maxLen] at h; omega
theorem Qjl {c : Cx} {s : Nat} {xs : List AV} {own : Option Nat} {u : Value} (h : Rel c (.sl s xs own) u) : xs.length ≤ 9223372036854775807 := by
 cases h with
 | slnil => exact Nat.zero_le _
 | slzero => exact Nat.zero_le _
 | sl _ _ _ B o cap f hs hcap hmax hc hr ht => simp only [maxLen] at hmax; omega
theorem QaA {X : Type} {f : X → AV} {c : Cx} {s : Nat} {xs : List X} {own : Option Nat} {u : Value} (h : Rel c (.sl s (xs.map f) own) u) : xs.length ≤ 9223372036854775807 := by
 have := Qjl h; rwa [List.length_map] at this
theorem Qg9 {H : Type} (enc : TypeId × Value → H) (W : World) : ∀ (fuel : Nat) (cs : List Value) (y : DataW H × List MemPlace), DataW.trod enc Tryz.prog W 0 (fun _ => true) true fuel 41 cs = some y → ∃ p : T, T.ok p ∧ Reads W (T.av p) cs := by
 intro fuel
 induction fuel using Nat.strongRecOn with
 | _ fuel ih =>
 intro cs y h
 obtain ⟨xs, fu, hfu, _, hl, hlen, hf⟩ := DataW.trod_struct Tryz.underlying41 h
 have hC : Tryz.prog.cellsOf 41 = 4 := by kernel_rfl
 rw [hC] at hl
 have hlenN : xs.length = 4 := hlen
 obtain ⟨y0, l1, rfl, k1⟩ := QY hlenN
 obtain ⟨y1, l2, rfl, k2⟩ := QY k1
 obtain ⟨y2, l3, rfl, k3⟩ := QY k2
 obtain ⟨y3, l4, rfl, k4⟩ := QY k3
 obtain rfl := len_nil k4
 obtain ⟨c0, l1, rfl, k1⟩ := QY hl
 obtain ⟨c1, l2, rfl, k2⟩ := QY k1
 obtain ⟨c2, l3, rfl, k3⟩ := QY k2
 obtain ⟨c3, l4, rfl, k4⟩ := QY k3
 obtain rfl := len_nil k4
 have g0 : DataW.trod enc Tryz.prog W 0 (fun _ => true) true fu 3 (([c0, c1, c2, c3].drop 0).take (Tryz.prog.cellsOf 3)) = some y0 := hf 0 _ rfl
 rw [show Tryz.prog.cellsOf 3 = 1 by kernel_rfl] at g0
 have g1 : DataW.trod enc Tryz.prog W 0 (fun _ => true) true fu 3 (([c0, c1, c2, c3].drop 1).take (Tryz.prog.cellsOf 3)) = some y1 := hf 1 _ rfl
 rw [show Tryz.prog.cellsOf 3 = 1 by kernel_rfl] at g1
 have g2 : DataW.trod enc Tryz.prog W 0 (fun _ => true) true fu 9 (([c0, c1, c2, c3].drop 2).take (Tryz.prog.cellsOf 9)) = some y2 := hf 2 _ rfl
 rw [show Tryz.prog.cellsOf 9 = 1 by kernel_rfl] at g2
 have g3 : DataW.trod enc Tryz.prog W 0 (fun _ => true) true fu 29 (([c0, c1, c2, c3].drop 3).take (Tryz.prog.cellsOf 29)) = some y3 := hf 3 _ rfl
 rw [show Tryz.prog.cellsOf 29 = 1 by kernel_rfl] at g3
 clear hf
 simp only [QqJ, QqB, QqD, QqK] at g0 g1 g2 g3
 obtain ⟨f0, e0, _, w0⟩ := DataW.trod_int Tryz.underlying3 g0
 obtain ⟨f1, e1, _, w1⟩ := DataW.trod_int Tryz.underlying3 g1
 obtain ⟨f2, e2, _, w2⟩ := DataW.trod_string Tryz.underlying9 g2
 obtain ⟨f3, u3, q3, e3, hu3, hr3⟩ := QaO (X := T) (val := T.av) (Good := T.ok) (s := 4) Tryz.underlying29 (by kernel_rfl) (by omega) (fun t => by rw [T.QpJ]; rfl) (fun m cs y hm hy => ih m (by omega) cs y hy) g3
 have n3 := QaA hr3
 rw [← Zd] at hr3
 cases e0
 cases e1
 cases e2
 cases e3
 refine ⟨.mk f0 f1 f2 f3, by simp only [T.ok]; exact ⟨QiA w0, QiA w1, QnC w2, QlQ _ q3⟩, rfl, fun j x v hx hv => ?_⟩
 rw [T.QpJ] at hx
 simp only [T.kind, T.int, T.name, T.args] at hx
 match j, hx, hv with
 | 0, hx, hv => simp at hx hv; subst hx; subst hv; exact ⟨.v _, rfl⟩
 | 1, hx, hv => simp at hx hv; subst hx; subst hv; exact ⟨.v _, rfl⟩
 | 2, hx, hv => simp at hx hv; subst hx; subst hv; exact ⟨.v _, rfl⟩
 | 3, hx, hv => simp at hx hv; subst hx; subst hv; exact ⟨hr3, hu3⟩
 | j + 4, hx, hv => simp at hx
theorem QkL {H : Type} (enc : TypeId × Value → H) (W : World) (fuel : Nat) (cs : List Value) (y : DataW H × List MemPlace) (h : DataW.trod enc Tryz.prog W 0 (fun _ => true) true fuel 45 cs = some y) : ∃ p : G, G.aok p ∧ Reads W (G.atom p) cs := by
 obtain ⟨xs, fu, hfu, _, hl, hlen, hf⟩ := DataW.trod_struct Tryz.underlying45 h
 have hC : Tryz.prog.cellsOf 45 = 2 := by kernel_rfl
 rw [hC] at hl
 have hlenN : xs.length = 2 := hlen
 obtain ⟨y0, l1, rfl, k1⟩ := QY hlenN
 obtain ⟨y1, l2, rfl, k2⟩ := QY k1
 obtain rfl := len_nil k2
 obtain ⟨c0, l1, rfl, k1⟩ := QY hl
 obtain ⟨c1, l2, rfl, k2⟩ := QY k1
 obtain rfl := len_nil k2
 have g0 : DataW.trod enc Tryz.prog W 0 (fun _ => true) true fu 9 (([c0, c1].drop 0).take (Tryz.prog.cellsOf 9)) = some y0 := hf 0 _ rfl
 rw [show Tryz.prog.cellsOf 9 = 1 by kernel_rfl] at g0
 have g1 : DataW.trod enc Tryz.prog W 0 (fun _ => true) true fu 29 (([c0, c1].drop 1).take (Tryz.prog.cellsOf 29)) = some y1 := hf 1 _ rfl
 rw [show Tryz.prog.cellsOf 29 = 1 by kernel_rfl] at g1
 clear hf
 simp only [QqJ, QqB, QqD, QqK] at g0 g1
 obtain ⟨f0, e0, _, w0⟩ := DataW.trod_string Tryz.underlying9 g0
 obtain ⟨f1, u1, q1, e1, hu1, hr1⟩ := QaO (X := T) (val := T.av) (Good := T.ok) (s := 4) Tryz.underlying29 (by kernel_rfl) (by omega) (fun t => by rw [T.QpJ]; rfl) (fun m cs y _ hy => Qg9 enc W m cs y hy) g1
 have n1 := QaA hr1
 rw [← Zd] at hr1
 cases e0
 cases e1
 refine ⟨⟨0, f0, f1⟩, ⟨rfl, by show i64 0; unfold i64; omega, QnC w0, QlQ _ q1⟩, rfl, fun j x v hx hv => ?_⟩
 rw [QQ] at hx
 match j, hx, hv with
 | 0, hx, hv => simp at hx hv; subst hx; subst hv; exact ⟨.v _, rfl⟩
 | 1, hx, hv => simp at hx hv; subst hx; subst hv; exact ⟨hr1, hu1⟩
 | j + 2, hx, hv => simp at hx
end Go.Proofs.YtniljpjjnmkoaaaGreatDoor.Ab
set_option maxRecDepth 4000
namespace Go.Proofs.YtniljpjjnmkoaaaGreatDoor.Ab
open Go.Proofs
end Go.Proofs.YtniljpjjnmkoaaaGreatDoor.Ab
set_option maxRecDepth 4000
namespace Go.Proofs.YtniljpjjnmkoaaaGreatDoor.Ab
open Go.Proofs
structure TokOk (H : Nat → AH) (m k e s : Nat) : Prop where
 len : ∀ n, (H n).length = m
 lt : k < m
 get : ∀ n, (H n)[k]? = some (.grow e s n)
 set : ∀ n n', (H n).set k (.grow e s n') = H n'
theorem TokOk.old {H : Nat → AH} {m k e s : Nat} (V : TokOk H m k e s) : ∀ n n' (i : Nat) b, (H n')[i]? = some b → (H n)[i]? = some b ∨ b.Below m := by
 intro n n' i b hb
 rw [← V.set n n'] at hb
 by_cases hi : k = i
 ·subst hi
  rw [List.getElem?_set_self (by rw [V.len]; exact V.lt)] at hb
  cases hb
  exact .inr trivial
 ·rw [List.getElem?_set_ne hi] at hb
  exact .inl hb
theorem T.Qqg (t : T) : t.vars = if t.kind = 1 then [t.int] else XS t.uses := by
 cases t with | mk k i n l =>
 show T.vars (.mk k i n l) = if k = 1 then [i] else XS (if k = 2 then l else [])
 simp only [T.vars]
 by_cases h1 : k = 1
 ·rw [if_pos h1, if_pos h1]
 ·rw [if_neg h1, if_neg h1]
  by_cases h2 : k = 2
  ·rw [if_pos h2, if_pos h2]
  ·rw [if_neg h2, if_neg h2]; rfl
end Go.Proofs.YtniljpjjnmkoaaaGreatDoor.Ab
set_option maxRecDepth 4000
namespace Go.Proofs.YtniljpjjnmkoaaaGreatDoor.Ab
open Go.Proofs
theorem Qma (s : List Int) (n : Int) : YG s n = (true, ded s [n]) := by simp only [YG, ded, ins]
theorem Ql5 : ∀ (n : Nat) (l : List T), ndsL l ≤ n → ∀ s : List Int, walks YG s l = (true, ded s (XS l)) := by
 intro n
 induction n with
 | zero =>
  intro l hl s
  cases l with
  | nil => rfl
  | cons t l => simp only [ndsL] at hl; have := T.QpH t; omega
 | succ n ih =>
  intro l hl s
  cases l with
  | nil => rfl
  | cons t l =>
   simp only [ndsL] at hl
   have hnd := T.QpH t
   have h1 : T.walk YG s t = (true, ded s t.vars) := by
    rw [T.walk_eq, T.Qqg]
    split
    ·exact Qma _ _
    ·exact ih _ (by have := Z9 t; omega) s
   simp only [walks, h1, ↓reduceIte, XS, Qei]
   exact ih l (by omega) _
theorem Qhd (t : T) : Yo t = ded [] t.vars := by
 rw [Yo, Ql5 _ [t] (Nat.le_refl _)]
 simp only [XS, QqV]
theorem QeG (b : List (Int × T)) (v : Int) : (XZ b v).isSome = bound b v := by
 induction b with
 | nil => rfl
 | cons x b ih =>
  simp only [XZ, bound, List.any_cons]
  by_cases h : x.1 = v
  ·rw [if_pos h]; simp [h]
  ·rw [if_neg h, ih]
   have : (x.1 == v) = false := by simpa using h
   rw [this, Bool.false_or]; rfl
end Go.Proofs.YtniljpjjnmkoaaaGreatDoor.Ab
set_option maxRecDepth 4000
namespace Go.Proofs.YtniljpjjnmkoaaaGreatDoor.Ab
open Go.Proofs
theorem QkX (l : List T) : Yo (.mk 2 0 { data := #[] } l) = ded [] (XS l) := by rw [Qhd]; rfl
end Go.Proofs.YtniljpjjnmkoaaaGreatDoor.Ab
set_option maxRecDepth 4000
namespace Go.Proofs.YtniljpjjnmkoaaaGreatDoor.Ab
open Go.Proofs
end Go.Proofs.YtniljpjjnmkoaaaGreatDoor.Ab
set_option maxRecDepth 4000
namespace Go.Proofs.YtniljpjjnmkoaaaGreatDoor.Ab
open Go.Proofs
end Go.Proofs.YtniljpjjnmkoaaaGreatDoor.Ab
namespace Go.Proofs.YtniljpjjnmkoaaaGreatDoor.Ab
def ansM (n : Int) (c : Ct) (p : List Int) : Ct := ⟨rens (toM n p) c.vals, Yq cmpG (c.store.map (G.ren (toM n p)))⟩
theorem Qnm {n : Int} {L σ p : List Int} (hp : p.Perm L) (h : ∀ v, toG n L σ v = toF n p v) (v : Int) : toMG n L σ v = toM n p v := by
 have e := h v
 rw [← Qlx, ← QiG] at e
 unfold toMG toM at e ⊢
 by_cases hv : v ∈ L
 ·rw [if_pos hv, if_pos (hp.mem_iff.2 hv)] at e ⊢
  simp only [Option.getD_some] at e
  rw [e]
 ·rw [if_neg hv, if_neg (fun q => hv (hp.mem_iff.1 q))]
theorem QbJ {n : Int} {c : Ct} {L σ p : List Int} (hp : p.Perm L) (h : ∀ v, toG n L σ v = toF n p v) : ansG n c L σ = ansM n c p := by
 have e : toMG n L σ = toM n p := funext (Qnm hp h)
 rw [ansG, ansM, e]
def Qi0 (n : Int) (c : Ct) : List (List Int) → Ct
 | [] => ⟨[], []⟩
 | e :: E => YY cmpA (ansM n c e) (E.map (ansM n c))
theorem Qeg {k : Nat} (hk : k ≤ 6) (σ : List Int) : σ ∈ Xz 720 (nums k) ↔ σ.Perm (nums k) := by rw [QdF hk, Qat]
theorem Qfx {n : Int} {c : Ct} {L : List Int} {E : List (List Int)} (hn : L.Nodup) (h6 : L.length ≤ 6) (hE : ∀ p, p ∈ E ↔ p.Perm L) : cmpA (X1 n c L) (Qi0 n c E) = 0 := by
 have hm := Qeg h6
 cases hP : Xz 720 (nums L.length) with
 | nil => rw [hP] at hm; exact absurd ((hm (nums L.length)).2 (.refl _)) (by simp)
 | cons d D =>
  rw [hP] at hm
  cases E with
  | nil => exact absurd ((hE L).2 (.refl _)) (by simp)
  | cons e E =>
   have e1 : X1 n c L = YY cmpA (ansG n c L d) (D.map (ansG n c L)) := by rw [X1, hP]
   rw [e1, Qi0]
   refine Qc0 ordA (fun y hy => ?_) fun y hy => ?_
   ·rw [← List.map_cons, List.mem_map] at hy
    obtain ⟨σ, h1, rfl⟩ := hy
    obtain ⟨p, h2, h3⟩ := QeV hn ((hm σ).1 h1)
    refine ⟨ansM n c p, ?_, ?_⟩
    ·rw [← List.map_cons]; exact List.mem_map.2 ⟨p, (hE p).2 h2, rfl⟩
    ·rw [QbJ h2 h3, ordA.refl]; exact Int.le_refl 0
   ·rw [← List.map_cons, List.mem_map] at hy
    obtain ⟨p, h1, rfl⟩ := hy
    obtain ⟨σ, h2, h3⟩ := Qmz hn ((hE p).1 h1)
    refine ⟨ansG n c L σ, ?_, ?_⟩
    ·rw [← List.map_cons]; exact List.mem_map.2 ⟨σ, (hm σ).2 h2, rfl⟩
    ·rw [QbJ ((hE p).1 h1) h3, ordA.refl]; exact Int.le_refl 0
end Go.Proofs.YtniljpjjnmkoaaaGreatDoor.Ab
namespace Go.Proofs.YtniljpjjnmkoaaaGreatDoor.Ab
end Go.Proofs.YtniljpjjnmkoaaaGreatDoor.Ab
set_option maxRecDepth 4000
namespace Go.Proofs.YtniljpjjnmkoaaaGreatDoor.Ab
open Go.Proofs
end Go.Proofs.YtniljpjjnmkoaaaGreatDoor.Ab
set_option maxRecDepth 4000
namespace Go.Proofs.YtniljpjjnmkoaaaGreatDoor.Ab
open Go.Proofs
def pre (k : Nat) (l : List Int) (i : Nat) : List (List Int) := (List.range i).flatMap fun j => (QjF k (l.eraseIdx j)).map fun t => l.getD j 0 :: t
end Go.Proofs.YtniljpjjnmkoaaaGreatDoor.Ab
set_option maxRecDepth 4000
namespace Go.Proofs.YtniljpjjnmkoaaaGreatDoor.Ab
open Go.Proofs
end Go.Proofs.YtniljpjjnmkoaaaGreatDoor.Ab
set_option maxRecDepth 4000
namespace Go.Proofs.YtniljpjjnmkoaaaGreatDoor.Ab
open Go.Proofs
structure Cs where
 vars : Int
 b : List (Int × T)
 l : List It
 failed : Bool
def Cs.av (c : Cs) : AV := .agg [.i c.vars, .sl 5 (bavs c.b) none, .sl 3 (vs It.av c.l) none, .v (.bool c.failed)]
theorem Cs.cells (c : Cs) : c.av.cells = [.i c.vars, .sl 5 (bavs c.b) none, .sl 3 (vs It.av c.l) none, .v (.bool c.failed)] := rfl
theorem Cs.isAgg (c : Cs) : c.av.isAgg = true := rfl
structure Cs.ok (c : Cs) : Prop where
 v : i64 c.vars
 b : ∀ x ∈ c.b, i64 x.1 ∧ x.2.ok
 l : ∀ x ∈ c.l, x.atom.op = 0 ∧ x.atom.ok
def bigB (x : Int × T) : Bool := decide (weigh 64 [x.2] 40 < 0)
def bigI (x : It) : Bool := decide (YW [x.atom] 40 < 0)
def Cs.big (c : Cs) : Bool := decide (c.vars > 101) || (decide ((c.b.length : Int) > 20) || (decide ((c.l.length : Int) > 7) || (c.b.any bigB || c.l.any bigI)))
theorem Cs.small {c : Cs} (ho : c.ok) (h : c.big = false) : c.vars ≤ 101 ∧ SmallC c.b c.l := by
 simp only [Cs.big, Bool.or_eq_false_iff, decide_eq_false_iff_not, List.any_eq_false] at h
 obtain ⟨h1, h2, h3, h4, h5⟩ := h
 refine ⟨by omega, by omega, fun x hx => ?_, ho.b, by omega, fun x hx => ?_, fun x hx => (ho.l x hx).2.2.2⟩
 ·have := h4 x hx
  rw [bigB, decide_eq_true_eq] at this
  have := Qkm this
  simp only [ndsL] at this; omega
 ·have := h5 x hx
  rw [bigI, decide_eq_true_eq] at this
  have := Qhl [x.atom] 40 (by omega)
  simp only [ndsG] at this; omega
theorem QbN (c : Cs) (ho : c.ok) : Pure Tryz.prog 9 [c.av] (.b c.big) := by
 intro h
 by_cases k1 : c.vars > 101
 ·have e : c.big = true := by rw [Cs.big, decide_eq_true k1]; rfl
  refine Qe Tryz.func9 rfl Tryz.call9 Tryz.ntmps9 (congrArg Array.toList Tryz.results9) (by simp) ?_
  repeat (first | (((with_reducible refine Qa fun K E hK hE => ?_)); simp -implicitDefEqProofs only [Qg, Qh, OpW, aop, undef, AS.ev, Qy, AV.QpF, ↓reduceIte, Qp, QC, QD, aBin, ti3, Qak, Cs.cells, k1, seval]) | (with_reducible (first | refine Qc fun K hK => ?_ | refine Qj ?_ | refine Qo ?_)) | ((with_reducible refine hK _ ?_); clear hK) | (refine Qf rfl ?_; simp only [↓reduceIte]))
  simp only [QE, Ql, Qr, upd, ↓reduceIte, Qqy, QqC]; first | refine Qd (htake _ _) (.keep (.v _)) ⟨by rw [e], rfl⟩ | refine Qd List.take_length (.keep (.v _)) ⟨by rw [e], rfl⟩
 by_cases k2 : (c.b.length : Int) > 20
 ·have e : c.big = true := by rw [Cs.big, decide_eq_true k2, Bool.true_or, Bool.or_true]
  refine Qe Tryz.func9 rfl Tryz.call9 Tryz.ntmps9 (congrArg Array.toList Tryz.results9) (by simp) ?_
  repeat (first | (((with_reducible refine Qa fun K E hK hE => ?_)); simp -implicitDefEqProofs only [Qg, Qh, OpW, aop, undef, AS.ev, Qy, AV.QpF, ↓reduceIte, Qp, QC, QD, aBin, aLen, goInt, ti3, ti23, un23, Qak, ZP, Cs.cells, QS, k1, k2, seval]) | (with_reducible (first | refine Qc fun K hK => ?_ | refine Qj ?_ | refine Qo ?_)) | ((with_reducible refine hK _ ?_); clear hK) | (refine Qf rfl ?_; simp only [↓reduceIte]))
  simp only [QE, Ql, Qr, upd, ↓reduceIte, Qqy, QqC]; first | refine Qd (htake _ _) (.keep (.v _)) ⟨by rw [e], rfl⟩ | refine Qd List.take_length (.keep (.v _)) ⟨by rw [e], rfl⟩
 by_cases k3 : (c.l.length : Int) > 7
 ·have e : c.big = true := by rw [Cs.big, decide_eq_true k3, Bool.true_or, Bool.or_true, Bool.or_true]
  refine Qe Tryz.func9 rfl Tryz.call9 Tryz.ntmps9 (congrArg Array.toList Tryz.results9) (by simp) ?_
  repeat (first | (((with_reducible refine Qa fun K E hK hE => ?_)); simp -implicitDefEqProofs only [Qg, Qh, OpW, aop, undef, AS.ev, Qy, AV.QpF, ↓reduceIte, Qp, QC, QD, aBin, aLen, goInt, ti3, ti23, un23, ti24, un24, Qak, ZP, ZQ, Cs.cells, QN, QS, k1, k2, k3, seval]) | (with_reducible (first | refine Qc fun K hK => ?_ | refine Qj ?_ | refine Qo ?_)) | ((with_reducible refine hK _ ?_); clear hK) | (refine Qf rfl ?_; simp only [↓reduceIte]))
  simp only [QE, Ql, Qr, upd, ↓reduceIte, Qqy, QqC]; first | refine Qd (htake _ _) (.keep (.v _)) ⟨by rw [e], rfl⟩ | refine Qd List.take_length (.keep (.v _)) ⟨by rw [e], rfl⟩
 have e : c.big = (c.b.any bigB || c.l.any bigI) := by rw [Cs.big, decide_eq_false k1, decide_eq_false k2, decide_eq_false k3]; rfl
 rw [e]
 refine Qe Tryz.func9 rfl Tryz.call9 Tryz.ntmps9 (congrArg Array.toList Tryz.results9) (by simp) ?_
 repeat (first | (((with_reducible refine Qa fun K E hK hE => ?_)); simp -implicitDefEqProofs only [Qg, Qh, OpW, aop, undef, AS.ev, Qy, AV.QpF, ↓reduceIte, Qp, QC, QD, aBin, aLen, goInt, ti3, ti23, un23, ti24, un24, Qak, ZP, ZQ, Cs.cells, QN, QS, k1, k2, k3, seval]) | (with_reducible (first | refine Qc fun K hK => ?_ | refine Qi ?_ | refine Qk ?_ | refine Qb ?_)) | ((with_reducible refine hK _ ?_); clear hK) | (refine Qf rfl ?_; simp only [↓reduceIte, Qqw]))
 obtain ⟨I, hI⟩ : ∃ I : Nat → AS → Prop, I = fun m' s => ∃ (k : Nat) (M : AH), m' = c.b.length - k ∧ k ≤ c.b.length ∧ (∀ x ∈ c.b.take k, bigB x = false) ∧ s.tm 1 = .ptr h.length 0 0 ∧ s.tm 3 = .i k ∧ s.h = h ++ ([.cells 26 4 [c.av]] ++ M) := ⟨_, rfl⟩; refine QJ I ?_ (m := c.b.length) ?_
 ·intro m' s hs; rw [hI] at hs; obtain ⟨tm, hp⟩ := s; dsimp only at hs; obtain ⟨k, M, rfl, hk, hall, t1, t3, rfl⟩ := hs
  by_cases hlt : k < c.b.length
  ·have hx := List.getElem_mem hlt
   have cg := Qj4 [(c.b[k]).2] 40 (by simp only [oks]; exact ⟨(ho.b _ hx).2, trivial⟩) (by omega) (by omega)
   have eb : decide (weigh 64 [(c.b[k]).2] 40 < 0) = bigB c.b[k] := rfl
   rw [eb] at cg
   have ea : avs [(c.b[k]).2] = [.agg [.i (c.b[k]).2.kind, .i (c.b[k]).2.int, .v (.string (c.b[k]).2.name), .sl 4 (avs (c.b[k]).2.args) none]] := by rw [Qbc, T.Qp0]
   rw [ea] at cg
   cases hr : bigB c.b[k] with
   | true =>
    rw [hr] at cg
    have e2 : c.b.any bigB = true := List.any_eq_true.2 ⟨_, hx, hr⟩
    repeat (first | ((first | (with_reducible (first | refine Qa fun K E hK hE => ?_ | refine Qq cg ?_))); simp -implicitDefEqProofs only [Qg, Qh, OpW, QI, aop, AS.ev, AV.QpF, ↓reduceIte, Qp, QC, QD, Qz, aBin, QK, aLen, goInt, ti23, ei23, un23, ZP, ei29, ti41, zi41, Qci, t1, t3, Cs.cells, hlt, QS, XG hlt, QR, Xm, seval]) | (with_reducible (first | refine Qc fun K hK => ?_ | refine Qi ?_ | refine Qj ?_ | refine Qk ?_ | refine Qb ?_ | refine Qo ?_ | refine Qs ?_)) | ((with_reducible refine hK _ ?_); clear hK) | (refine Qf rfl ?_; simp only [↓reduceIte]))
    simp only [QE, Ql, Qr, upd, ↓reduceIte, Qqy, QqC]; first | refine Qd (htake _ _) (.keep (.v _)) ⟨by rw [e2]; rfl, rfl⟩ | refine Qd List.take_length (.keep (.v _)) ⟨by rw [e2]; rfl, rfl⟩
   | false =>
    rw [hr] at cg
    repeat (first | ((first | (with_reducible (first | refine Qa fun K E hK hE => ?_ | refine Qm fun K E hK hE => ?_ | refine Qq cg ?_))); simp -implicitDefEqProofs only [Qg, Qh, OpW, QI, aop, AS.ev, AV.QpF, ↓reduceIte, Qp, QC, QD, Qz, aBin, QK, aLen, goInt, ti23, ei23, un23, ZP, ei29, ti41, zi41, Qci, t1, t3, Cs.cells, hlt, QS, XG hlt, QR, Xm, seval]) | (with_reducible (first | refine Qc fun K hK => ?_ | refine Qi ?_ | refine Qk ?_ | refine Qb ?_ | refine Qn ?_)) | ((with_reducible refine hK _ ?_); clear hK) | (refine Qf rfl ?_; simp only [↓reduceIte, Qqw]))
    refine Q1.mk (m' := c.b.length - (k + 1)) (by omega) ?_
    rw [hI]
    refine ⟨k + 1, M, rfl, hlt, ?_, t1, ?_, rfl⟩
    ·intro x hx
     rw [List.take_succ_eq_append_getElem hlt] at hx
     rcases List.mem_append.1 hx with hx | hx
     ·exact hall x hx
     ·rw [List.mem_singleton] at hx; subst hx; exact hr
    ·simp only [upd, ↓reduceIte]
     rw [QP (by omega)]
  ·have hkl : k = c.b.length := by omega
   subst hkl
   rw [List.take_length] at hall
   have eb0 : c.b.any bigB = false := by rw [List.any_eq_false]; intro x hx; rw [hall x hx]; decide
   repeat (first | (((with_reducible refine Qa fun K E hK hE => ?_)); simp -implicitDefEqProofs only [Qg, Qh, OpW, aop, AS.ev, ↓reduceIte, Qp, QC, QD, aBin, aLen, goInt, ti23, un23, ZP, t1, t3, Cs.cells, hlt, QS, seval]) | (with_reducible (first | refine Qc fun K hK => ?_ | refine Qi ?_ | refine QB ?_ | refine Qb ?_ | refine Qw ?_ | refine Qv ?_)) | ((with_reducible refine hK _ ?_); clear hK) | (clear hK; (with_reducible refine hK _ ?_); clear hK) | (refine Qf rfl ?_; simp only [↓reduceIte, Qqw]))
   obtain ⟨I, hI⟩ : ∃ I : Nat → AS → Prop, I = fun m' s => ∃ (k : Nat) (M : AH), m' = c.l.length - k ∧ k ≤ c.l.length ∧ (∀ x ∈ c.l.take k, bigI x = false) ∧ s.tm 1 = .ptr h.length 0 0 ∧ s.tm 4 = .i k ∧ s.h = h ++ ([.cells 26 4 [c.av]] ++ M) := ⟨_, rfl⟩; refine QJ I ?_ (m := c.l.length) ?_
   ·intro m' s hs; rw [hI] at hs; obtain ⟨tm, hp⟩ := s; dsimp only at hs; obtain ⟨k, M, rfl, hk, hall, t1, t4, rfl⟩ := hs
    by_cases hlt : k < c.l.length
    ·have hx := List.getElem_mem hlt
     have cg : Pure Tryz.prog 29 [.sl 2 [.agg [.v (.string (c.l[k]).atom.name), .sl 4 (avs (c.l[k]).atom.args) none]] none, .i 40] (.b (decide (YW [(c.l[k]).atom] 40 < 0))) :=
      Qdv [(c.l[k]).atom] 40 (fun g hg => by rw [List.mem_singleton] at hg; subst hg; exact (ho.l _ hx).2) (by simp) (by omega) (by omega)
     have eb : decide (YW [(c.l[k]).atom] 40 < 0) = bigI c.l[k] := rfl
     rw [eb] at cg
     cases hr : bigI c.l[k] with
     | true =>
      rw [hr] at cg
      have e2 : c.l.any bigI = true := List.any_eq_true.2 ⟨_, hx, hr⟩
      repeat (first | ((first | (with_reducible (first | refine Qa fun K E hK hE => ?_ | refine Qq cg ?_))); simp -implicitDefEqProofs only [Qg, Qh, OpW, QI, aop, AS.ev, AV.QpF, ↓reduceIte, Qp, QC, QD, Qz, aBin, QK, aLen, goInt, ti24, ei24, un24, ZQ, ei30, ti45, zi45, Qgo, t1, t4, Cs.cells, hlt, QN, XN It.av hlt, It.cells, It.isAgg, seval]) | (with_reducible (first | refine Qc fun K hK => ?_ | refine Qi ?_ | refine Qj ?_ | refine Qk ?_ | refine Qb ?_ | refine Qo ?_ | refine Qs ?_)) | ((with_reducible refine hK _ ?_); clear hK) | (refine Qf rfl ?_; simp only [↓reduceIte]))
      simp only [QE, Ql, Qr, upd, ↓reduceIte, Qqy, QqC]; first | refine Qd (htake _ _) (.keep (.v _)) ⟨by rw [eb0, e2]; rfl, rfl⟩ | refine Qd List.take_length (.keep (.v _)) ⟨by rw [eb0, e2]; rfl, rfl⟩
     | false =>
      rw [hr] at cg
      repeat (first | ((first | (with_reducible (first | refine Qa fun K E hK hE => ?_ | refine Qm fun K E hK hE => ?_ | refine Qq cg ?_))); simp -implicitDefEqProofs only [Qg, Qh, OpW, QI, aop, AS.ev, AV.QpF, ↓reduceIte, Qp, QC, QD, Qz, aBin, QK, aLen, goInt, ti24, ei24, un24, ZQ, ei30, ti45, zi45, Qgo, t1, t4, Cs.cells, hlt, QN, XN It.av hlt, It.cells, It.isAgg, seval]) | (with_reducible (first | refine Qc fun K hK => ?_ | refine Qi ?_ | refine Qk ?_ | refine Qb ?_ | refine Qn ?_)) | ((with_reducible refine hK _ ?_); clear hK) | (refine Qf rfl ?_; simp only [↓reduceIte, Qqw]))
      refine Q1.mk (m' := c.l.length - (k + 1)) (by omega) ?_
      rw [hI]
      refine ⟨k + 1, M, rfl, hlt, ?_, t1, ?_, rfl⟩
      ·intro x hx
       rw [List.take_succ_eq_append_getElem hlt] at hx
       rcases List.mem_append.1 hx with hx | hx
       ·exact hall x hx
       ·rw [List.mem_singleton] at hx; subst hx; exact hr
      ·simp only [upd, ↓reduceIte]
       rw [QP (by omega)]
    ·have hkl : k = c.l.length := by omega
     subst hkl
     rw [List.take_length] at hall
     have e2 : c.l.any bigI = false := by rw [List.any_eq_false]; intro x hx; rw [hall x hx]; decide
     repeat (first | (((with_reducible refine Qa fun K E hK hE => ?_)); simp -implicitDefEqProofs only [Qg, Qh, OpW, aop, AS.ev, ↓reduceIte, Qp, QC, QD, aBin, aLen, goInt, ti24, un24, ZQ, t1, t4, Cs.cells, hlt, QN, seval]) | (with_reducible (first | refine Qc fun K hK => ?_ | refine Qj ?_ | refine QB ?_ | refine Qb ?_ | refine Qw ?_ | refine Qv ?_)) | ((with_reducible refine hK _ ?_); clear hK) | (clear hK; (with_reducible refine hK _ ?_); clear hK) | (refine Qf rfl ?_; simp only [↓reduceIte, Qqw]))
     simp only [QE, Ql, Qr, upd, ↓reduceIte, Qqy, QqC]; first | refine Qd (htake _ _) (.keep (.v _)) ⟨by rw [eb0, e2]; rfl, rfl⟩ | refine Qd List.take_length (.keep (.v _)) ⟨by rw [eb0, e2]; rfl, rfl⟩
   ·rw [hI]
    exact ⟨0, M, by omega, Nat.zero_le _, by simp, t1, rfl, rfl⟩
 ·rw [hI]
  exact ⟨0, [], by omega, Nat.zero_le _, by simp, rfl, rfl, rfl⟩
theorem Qhk (a b : An) (hv : ndsL a.vals ≤ 1000000) (hs : gsN a.store ≤ 1000000) : Pure Tryz.prog 13 [a.av, b.av] (.b (Zn a b == 0)) := by
 intro h
 have c := QbG a b hv hs
 refine Qe Tryz.func13 rfl Tryz.call13 Tryz.ntmps13 (congrArg Array.toList Tryz.results13) (by simp) ?_
 repeat (first | ((first | (with_reducible (first | refine Qa fun K E hK hE => ?_ | refine Qq c ?_))); simp -implicitDefEqProofs only [Qg, Qh, OpW, QI, aop, undef, AS.ev, Qy, AV.QpF, ↓reduceIte, QC, QD, aBin, ti32, An.cells, An.isAgg, seval]) | (with_reducible refine Qj ?_) | ((with_reducible refine hK _ ?_); clear hK))
 simp only [QE, Ql, Qr, upd, ↓reduceIte, Qqy, QqC]; first | refine Qd (htake _ _) (.keep (.v _)) ⟨rfl, rfl⟩ | refine Qd List.take_length (.keep (.v _)) ⟨rfl, rfl⟩
end Go.Proofs.YtniljpjjnmkoaaaGreatDoor.Ab
namespace Go.Proofs.YtniljpjjnmkoaaaGreatDoor.Ab
open Go.Proofs
def bokB (x : Int × T) : Prop := i64 x.1 ∧ x.2.ok
def iokB (x : It) : Prop := x.atom.op = 0 ∧ x.atom.ok
theorem Qko {H : Type} (enc : TypeId × Value → H) (W : World) (fuel : Nat) (cs : List Value) (y : DataW H × List MemPlace) (h : DataW.trod enc Tryz.prog W 0 (fun _ => true) true fuel 52 cs = some y) : ∃ p : (Int × T), bokB p ∧ Reads W (bav p) cs := by
 obtain ⟨xs, fu, hfu, _, hl, hlen, hf⟩ := DataW.trod_struct Tryz.underlying52 h
 have hC : Tryz.prog.cellsOf 52 = 5 := by kernel_rfl
 rw [hC] at hl
 have hlenN : xs.length = 2 := hlen
 obtain ⟨y0, l1, rfl, k1⟩ := QY hlenN
 obtain ⟨y1, l2, rfl, k2⟩ := QY k1
 obtain rfl := len_nil k2
 obtain ⟨c0, l1, rfl, k1⟩ := QY hl
 obtain ⟨c1, l2, rfl, k2⟩ := QY k1
 obtain ⟨c2, l3, rfl, k3⟩ := QY k2
 obtain ⟨c3, l4, rfl, k4⟩ := QY k3
 obtain ⟨c4, l5, rfl, k5⟩ := QY k4
 obtain rfl := len_nil k5
 have g0 : DataW.trod enc Tryz.prog W 0 (fun _ => true) true fu 3 (([c0, c1, c2, c3, c4].drop 0).take (Tryz.prog.cellsOf 3)) = some y0 := hf 0 _ rfl
 rw [show Tryz.prog.cellsOf 3 = 1 by kernel_rfl] at g0
 have g1 : DataW.trod enc Tryz.prog W 0 (fun _ => true) true fu 41 (([c0, c1, c2, c3, c4].drop 1).take (Tryz.prog.cellsOf 41)) = some y1 := hf 1 _ rfl
 rw [show Tryz.prog.cellsOf 41 = 4 by kernel_rfl] at g1
 clear hf
 simp only [QqJ, QqB, QqD, QqK] at g0 g1
 obtain ⟨f0, e0, _, w0⟩ := DataW.trod_int Tryz.underlying3 g0
 obtain ⟨f1, q1, hr1⟩ := Qg9 enc W _ _ _ g1
 cases e0
 refine ⟨(f0, f1), ⟨QiA w0, q1⟩, rfl, fun j x v hx hv => ?_⟩
 rw [QR] at hx
 match j, hx, hv with
 | 0, hx, hv => simp at hx hv; subst hx; subst hv; exact ⟨.v _, rfl⟩
 | 1, hx, hv => simp at hx hv; subst hx; subst hv; exact hr1.2 0 _ _ (by rw [T.QpJ]; rfl) rfl
 | 2, hx, hv => simp at hx hv; subst hx; subst hv; exact hr1.2 1 _ _ (by rw [T.QpJ]; rfl) rfl
 | 3, hx, hv => simp at hx hv; subst hx; subst hv; exact hr1.2 2 _ _ (by rw [T.QpJ]; rfl) rfl
 | 4, hx, hv => simp at hx hv; subst hx; subst hv; exact hr1.2 3 _ _ (by rw [T.QpJ]; rfl) rfl
 | j + 5, hx, hv => simp at hx
theorem QkB {H : Type} (enc : TypeId × Value → H) (W : World) (fuel : Nat) (cs : List Value) (y : DataW H × List MemPlace) (h : DataW.trod enc Tryz.prog W 0 (fun _ => true) true fuel 48 cs = some y) : ∃ p : It, iokB p ∧ Reads W (It.av p) cs := by
 obtain ⟨xs, fu, hfu, _, hl, hlen, hf⟩ := DataW.trod_struct Tryz.underlying48 h
 have hC : Tryz.prog.cellsOf 48 = 3 := by kernel_rfl
 rw [hC] at hl
 have hlenN : xs.length = 2 := hlen
 obtain ⟨y0, l1, rfl, k1⟩ := QY hlenN
 obtain ⟨y1, l2, rfl, k2⟩ := QY k1
 obtain rfl := len_nil k2
 obtain ⟨c0, l1, rfl, k1⟩ := QY hl
 obtain ⟨c1, l2, rfl, k2⟩ := QY k1
 obtain ⟨c2, l3, rfl, k3⟩ := QY k2
 obtain rfl := len_nil k3
 have g0 : DataW.trod enc Tryz.prog W 0 (fun _ => true) true fu 3 (([c0, c1, c2].drop 0).take (Tryz.prog.cellsOf 3)) = some y0 := hf 0 _ rfl
 rw [show Tryz.prog.cellsOf 3 = 1 by kernel_rfl] at g0
 have g1 : DataW.trod enc Tryz.prog W 0 (fun _ => true) true fu 45 (([c0, c1, c2].drop 1).take (Tryz.prog.cellsOf 45)) = some y1 := hf 1 _ rfl
 rw [show Tryz.prog.cellsOf 45 = 2 by kernel_rfl] at g1
 clear hf
 simp only [QqJ, QqB, QqD, QqK] at g0 g1
 obtain ⟨f0, e0, _, w0⟩ := DataW.trod_int Tryz.underlying3 g0
 obtain ⟨f1, q1, hr1⟩ := QkL enc W _ _ _ g1
 cases e0
 refine ⟨⟨f0, f1⟩, q1, rfl, fun j x v hx hv => ?_⟩
 rw [It.cells] at hx
 match j, hx, hv with
 | 0, hx, hv => simp at hx hv; subst hx; subst hv; exact ⟨.v _, rfl⟩
 | 1, hx, hv => simp at hx hv; subst hx; subst hv; exact hr1.2 0 _ _ rfl rfl
 | 2, hx, hv => simp at hx hv; subst hx; subst hv; exact hr1.2 1 _ _ rfl rfl
 | j + 3, hx, hv => simp at hx
theorem Qdd {H : Type} (enc : TypeId × Value → H) (W : World) (fuel : Nat) (cs : List Value) (y : DataW H × List MemPlace) (h : DataW.trod enc Tryz.prog W 0 (fun _ => true) true fuel 26 cs = some y) : ∃ p : Cs, Cs.ok p ∧ Reads W (Cs.av p) cs := by
 obtain ⟨xs, fu, hfu, _, hl, hlen, hf⟩ := DataW.trod_struct Tryz.underlying26 h
 have hC : Tryz.prog.cellsOf 26 = 4 := by kernel_rfl
 rw [hC] at hl
 have hlenN : xs.length = 4 := hlen
 obtain ⟨y0, l1, rfl, k1⟩ := QY hlenN
 obtain ⟨y1, l2, rfl, k2⟩ := QY k1
 obtain ⟨y2, l3, rfl, k3⟩ := QY k2
 obtain ⟨y3, l4, rfl, k4⟩ := QY k3
 obtain rfl := len_nil k4
 obtain ⟨c0, l1, rfl, k1⟩ := QY hl
 obtain ⟨c1, l2, rfl, k2⟩ := QY k1
 obtain ⟨c2, l3, rfl, k3⟩ := QY k2
 obtain ⟨c3, l4, rfl, k4⟩ := QY k3
 obtain rfl := len_nil k4
 have g0 : DataW.trod enc Tryz.prog W 0 (fun _ => true) true fu 3 (([c0, c1, c2, c3].drop 0).take (Tryz.prog.cellsOf 3)) = some y0 := hf 0 _ rfl
 rw [show Tryz.prog.cellsOf 3 = 1 by kernel_rfl] at g0
 have g1 : DataW.trod enc Tryz.prog W 0 (fun _ => true) true fu 23 (([c0, c1, c2, c3].drop 1).take (Tryz.prog.cellsOf 23)) = some y1 := hf 1 _ rfl
 rw [show Tryz.prog.cellsOf 23 = 1 by kernel_rfl] at g1
 have g2 : DataW.trod enc Tryz.prog W 0 (fun _ => true) true fu 24 (([c0, c1, c2, c3].drop 2).take (Tryz.prog.cellsOf 24)) = some y2 := hf 2 _ rfl
 rw [show Tryz.prog.cellsOf 24 = 1 by kernel_rfl] at g2
 have g3 : DataW.trod enc Tryz.prog W 0 (fun _ => true) true fu 4 (([c0, c1, c2, c3].drop 3).take (Tryz.prog.cellsOf 4)) = some y3 := hf 3 _ rfl
 rw [show Tryz.prog.cellsOf 4 = 1 by kernel_rfl] at g3
 clear hf
 simp only [QqJ, QqB, QqD, QqK] at g0 g1 g2 g3
 obtain ⟨f0, e0, _, w0⟩ := DataW.trod_int Tryz.underlying3 g0
 obtain ⟨f1, u1, q1, e1, hu1, hr1⟩ := QaO (X := (Int × T)) (val := bav) (Good := bokB) (s := 5) Tryz.underlying23 (by kernel_rfl) (by omega) (fun t => by rw [QR]; rfl) (fun m cs y _ hy => Qko enc W m cs y hy) g1
 have n1 := QaA hr1
 obtain ⟨f2, u2, q2, e2, hu2, hr2⟩ := QaO (X := It) (val := It.av) (Good := iokB) (s := 3) Tryz.underlying24 (by kernel_rfl) (by omega) (fun t => by rw [It.cells]; rfl) (fun m cs y _ hy => QkB enc W m cs y hy) g2
 have n2 := QaA hr2
 obtain ⟨f3, e3, _⟩ := DataW.trod_bool Tryz.underlying4 g3
 cases e0
 cases e1
 cases e2
 cases e3
 refine ⟨⟨f0, f1, f2, f3⟩, ⟨QiA w0, q1, q2⟩, rfl, fun j x v hx hv => ?_⟩
 rw [Cs.cells] at hx
 match j, hx, hv with
 | 0, hx, hv => simp at hx hv; subst hx; subst hv; exact ⟨.v _, rfl⟩
 | 1, hx, hv => simp at hx hv; subst hx; subst hv; exact ⟨hr1, hu1⟩
 | 2, hx, hv => simp at hx hv; subst hx; subst hv; exact ⟨hr2, hu2⟩
 | 3, hx, hv => simp at hx hv; subst hx; subst hv; exact ⟨.v _, rfl⟩
 | j + 4, hx, hv => simp at hx
end Go.Proofs.YtniljpjjnmkoaaaGreatDoor.Ab
set_option maxRecDepth 4000
namespace Go.Proofs.YtniljpjjnmkoaaaGreatDoor.Ab
open Go.Proofs
end Go.Proofs.YtniljpjjnmkoaaaGreatDoor.Ab
