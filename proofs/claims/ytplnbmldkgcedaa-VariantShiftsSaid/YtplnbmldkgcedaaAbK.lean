/-
  The abstract program logic: map updates; the operations together; regions in the order of the text; functions.
-/
import Derived.Test.YtplnbmldkgcedaaAbJ
set_option linter.unusedVariables false
set_option maxHeartbeats 4000000
namespace Go.Proofs.Ytplnbmldkgcedaa.Ab

def aMapUpdate (P : Program) (t : TypeId) (x k v : AV) (h : AH) : Option AH :=
  match mapInfo P t with
  | some (d, _) =>
    match x, k with
    | .mp id, .v kv => match h[id]? with
      | some (.map es) => match updA d kv v es with
        | some es' => some (h.set id (.map es'))
        | none => none
      | _ => none
    | _, _ => none
  | none => none

theorem run_setObj_map {P : Program} {w : World} {r : Nat} {es : Array MapEntry} {k : Nat} {o : Obj} (h : w.heap[r]? = some (.map es k)) : (setObj r o).run P w = .ok () { w with heap := w.heap.setIfInBounds r o } := by
  simp [setObj, Sem.run, h]

theorem mapUpdate_sound {P : Program} {c : Cx} (hst : St c) {t : TypeId} {x k v : AV} {h' : AH} {ux uk uv : Value} (ha : aMapUpdate P t x k v c.h = some h') (hx : Rel c x ux) (hk : Rel c k uk) (hv : Rel c v uv) :
    ∃ c', (Instr.mapUpdate t ux uk uv).run P c.w = .ok () c'.w ∧ Ev c c' ∧ St c' ∧ c'.h = h' := by
  unfold aMapUpdate at ha
  cases hm : mapInfo P t with
  | none => simp [hm] at ha
  | some de =>
    obtain ⟨d, e⟩ := de
    obtain ⟨kt, hu, hkt, hd⟩ := mapInfo_spec hm
    simp only [hm] at ha
    split at ha
    · rename_i id kv
      cases hk
      split at ha
      · rename_i es hb
        split at ha
        · rename_i es' hup
          cases ha
          cases hx with
          | mp _ x hid ho h1 =>
            obtain ⟨B, hρ, rfl⟩ := h1.1 _ hb
            obtain ⟨B', ents, clock, h2, h3, h4, h5⟩ := hst.blocks id _ hb
            rw [hρ] at h2; cases h2
            have hlt : B < c.w.heap.size := (Array.getElem?_eq_some_iff.1 h3).1
            have hrm : RelM c es ents.toList := ⟨by simpa using h4, fun j kv e h6 h7 => h5 j kv e h6 (by simpa using h7)⟩
            -- whatever the new entries are
            have fin : ∀ (ents' : Array MapEntry) (clock' : Nat), RelM c es' ents'.toList → ∃ c', ({ c.w with heap := c.w.heap.setIfInBounds B (.map ents' clock') } : World) = c'.w ∧ Ev c c' ∧ St c' ∧ c'.h = c.h.set id (.map es') := by
              intro ents' clock' hr'
              let w' : World := { c.w with heap := c.w.heap.setIfInBounds B (.map ents' clock') }
              have hold : ∀ k, k ≠ B → w'.heap[k]? = c.w.heap[k]? := fun k hk => by simp only [w']; rw [Array.getElem?_setIfInBounds_ne (fun e => hk e.symm)]
              have hnew : w'.heap[B]? = some (.map ents' clock') := by simp only [w']; rw [Array.getElem?_setIfInBounds_self_of_lt hlt]
              have hev : Ev c (c.turn w' id (.map es')) := Ev.turn hst hb rfl hρ rfl rfl rfl (by simp [w']) hold ⟨_, rfl, rfl⟩
              refine ⟨c.turn w' id (.map es'), rfl, hev, St.turn hst hb rfl hρ hold hev ?_, rfl⟩
              refine ⟨B, ents', clock', hρ, hnew, by simpa using hr'.1, fun j kv e h6 h7 => ?_⟩
              obtain ⟨h8, h9⟩ := hr'.2 j kv e h6 (by simpa using h7)
              exact ⟨h8, h9.ev hst hev⟩
            rcases upd_sound hv clock 0 hrm hup with ⟨hf, hr⟩ | ⟨j, v0, e0, hf, he0, hs, hr⟩
            · obtain ⟨c', h6, h7⟩ := fin (ents.push { key := uk, val := uv, born := clock }) (clock + 1) (by simpa using hr)
              refine ⟨c', ?_, h7⟩
              rw [← h6]
              simp [Instr.mapUpdate, underlying, hu, run_getObj_map h3, checkKey_run hkt hd, Instr.findKey, hkt, hf, run_setObj_map h3]
            · obtain ⟨c', h6, h7⟩ := fin (ents.modify j fun e => { e with key := uk, val := uv }) clock (by simpa using hr)
              refine ⟨c', ?_, h7⟩
              rw [← h6]
              have he0' : ents[j]? = some e0 := by simpa using he0
              have hbits : Instr.sameBits 10000 e0.key uk = true := sameNow_bits hs
              rw [Nat.zero_add] at hf
              simp [Instr.mapUpdate, underlying, hu, run_getObj_map h3, checkKey_run hkt hd, Instr.findKey, hkt, hf, he0', Instr.keyThatStays, hbits, run_setObj_map h3]
        · cases ha
      · cases ha
    · cases ha

theorem makeMap_sound {P : Program} {c : Cx} (hst : St c) (t : TypeId) (r : Option Value) (hr : ∀ v, r = some v → (∃ k e, P.underlying t = some (.map k e)) ∧ ∃ q n, v = .int q n) :
    ∃ c', (Instr.makeMap t r).run P c.w = .ok (.map (some c.w.heap.size)) c'.w ∧ Ev c c' ∧ St c' ∧ c'.h = c.h ++ [.map []] ∧ Rel c' (.mp c.h.length) (.map (some c.w.heap.size)) := by
  have hg : Grows c.w (c.w.alloc (.map #[] 0)) := Grows.alloc _ _
  have ho : ∀ B, some c.w.heap.size = some B → c.w.heap.size ≤ B := fun B h => by cases h; exact Nat.le_refl _
  have hev := Ev.add hst hg (.map []) (some c.w.heap.size) ho
  have hρ : (c.add (c.w.alloc (.map #[] 0)) (.map []) (some c.w.heap.size)).ρ c.h.length = some c.w.heap.size := by simp [Cx.add]
  refine ⟨c.add (c.w.alloc (.map #[] 0)) (.map []) (some c.w.heap.size), ?_, hev, St.add hst hg _ _ ho ?_, rfl, .mp _ _ (by simp [Cx.add]) rfl ⟨fun es _ => ⟨_, hρ, rfl⟩, fun i hi => by simp [Cx.add] at hi⟩⟩
  · cases r with
    | none => rfl
    | some v =>
      obtain ⟨⟨k, e, hu⟩, q, n, rfl⟩ := hr v rfl
      simp [Instr.makeMap, underlying, hu, asInt, asIntOf, Cx.add]
  · exact ⟨_, #[], 0, hρ, heap_alloc_top _ _, rfl, fun j kv e h => by simp at h⟩

/-! ### the operations together -/

def tyIsMap (P : Program) (t : TypeId) : Bool := match P.underlying t with | some (.map _ _) => true | _ => false

/-- all operations but calls of functions -/
def aop (P : Program) (ev : Operand → AV) (ty : TypeId) (h : AH) : Op → Option (AV × AH)
  | .move x | .assign x => some (ev x, h)
  | .pick c a b => match ev c with
    | .v (.bool t) => some (if t then ev a else ev b, h)
    | _ => none
  | .alloc t => match zeroAV P t with
    | some z => if z.cells1 = true then some (.ptr h.length 0 0, h ++ [.cells t z.cells.length [z]]) else none
    | none => none
  | .box t x => if (ev x).cells1 = true then some (.ptr h.length 0 0, h ++ [.cells t (ev x).cells.length [ev x]]) else none
  | .build t parts => (aBuild P t (parts.toList.map fun p => (p.1, ev p.2))).map (·, h)
  | .buildSlice t len parts => aBuildSlice P t len (parts.toList.map fun p => (p.1, ev p.2)) h
  | .load t a => (aLoad P t (ev a) h).map (·, h)
  | .store t a x => (aStore P t (ev a) (ev x) h).map (.v undef, ·)
  | .binOp op t x y _ => (aBin P op t x y (ev x) (ev y) h).map (·, h)
  | .unOp op _ x => match ev x with
    | .v a => (pv P (Op.unary op a)).map (.v ·, h)
    | _ => none
  | .convert s d x => match ev x with
    | .v a => (pv P (convert s d a)).map (.v ·, h)
    | _ => none
  | .makeFunc f a b => some (.fn f (a.toList.map ev) (b.toList.map ev), h)
  | .makeInterface t x => match P.underlying t with
    | some (.interface _) => none
    | some _ => some (.ifc t (ev x), h)
    | none => none
  | .makeMap t r => match r.map ev with
    | none => some (.mp h.length, h ++ [.map []])
    | some (.v (.int _ _)) => if tyIsMap P t then some (.mp h.length, h ++ [.map []]) else none
    | _ => none
  | .slice t x lo hi mx => match mx with
    | none => (aSlice P t (ev x) (lo.map ev) (hi.map ev) h).map (·, h)
    | some m => aSlice0 P t (ev x) (lo.map ev) (hi.map ev) (some (ev m)) h
  | .fieldAddr t x i => (aFieldAddr P t (ev x) i h).map (·, h)
  | .field t x i => (aField P t (ev x) i).map (·, h)
  | .indexAddr t x i => (aIndexAddr P t (ev x) (ev i) h).map (·, h)
  | .index t x i => match ev x, ev i with
    | .v a, .v b => (pv P (Instr.index t a b)).map (.v ·, h)
    | _, _ => none
  | .lookup t x k ok => (aLookup P t (ev x) (ev k) ok h).map (·, h)
  | .mapUpdate t m k x => (aMapUpdate P t (ev m) (ev k) (ev x) h).map (.v undef, ·)
  | .insert t m k x => (aMapUpdate P t (ev m) (ev k) (ev x) h).map (.v undef, ·)
  | .extract t i => (aExtract (ev t) i).map (·, h)
  | .call c => match c.callee with
    | .builtin .len => match c.args.toList, c.argTypes.toList with
      | [x], [t] => (aLen P t ty (ev x) h).map (·, h)
      | _, _ => none
    | .builtin .append => match c.args.toList, c.argTypes.toList with
      | [x, y], [t, u] => aAppend P t u (ev x) (ev y) h
      | _, _ => none
    | .builtin .min => match c.args.toList.map ev with
      | [.v a, .v b] => (pv P (Builtin.min_ c.argTypes ty #[a, b])).map (.v ·, h)
      | _ => none
    | .builtin .max => match c.args.toList.map ev with
      | [.v a, .v b] => (pv P (Builtin.max_ c.argTypes ty #[a, b])).map (.v ·, h)
      | _ => none
    | _ => none
  | _ => none

/-- what an operation does, related -/
def OpRel (P : Program) (o : Oper) (ρ : Operand → Value) (c : Cx) (r : AV) (h' : AH) : Prop :=
  ∃ c', Ev c c' ∧ St c' ∧ c'.h = h' ∧ ((∃ x, (execOp ρ o).run P c.w = .ok (.value x) c'.w ∧ Rel c' r x) ∨ ((execOp ρ o).run P c.w = .ok .skip c'.w ∧ Rel c' r undef))

theorem OpRel.pure {P : Program} {o : Oper} {ρ : Operand → Value} {c : Cx} (hst : St c) {r : AV} {x : Value} (hrun : (execOp ρ o).run P c.w = .ok (.value x) c.w) (hr : Rel c r x) : OpRel P o ρ c r c.h :=
  ⟨c, Ev.refl c, hst, rfl, .inl ⟨x, hrun, hr⟩⟩

theorem relL_parts {c : Cx} {ev : Operand → AV} {ρ : Operand → Value} (hev : ∀ x, Rel c (ev x) (ρ x)) (parts : Array (Nat × Operand)) :
    (parts.toList.map fun p => (p.1, ev p.2)).map (·.1) = (parts.map fun (i, x) => (i, ρ x)).toList.map (·.1) ∧
    RelL c ((parts.toList.map fun p => (p.1, ev p.2)).map (·.2)) ((parts.map fun (i, x) => (i, ρ x)).toList.map (·.2)).toArray := by
  refine ⟨by simp, by simp, fun j a u ha hu => ?_⟩
  simp only [List.map_map, List.getElem?_map, Option.map_eq_some_iff, Array.getElem?_toList] at ha
  obtain ⟨p, hp, rfl⟩ := ha
  simp [hp] at hu
  subst hu
  exact hev p.2

theorem relL_map {c : Cx} {ev : Operand → AV} {ρ : Operand → Value} (hev : ∀ x, Rel c (ev x) (ρ x)) (xs : Array Operand) : RelL c (xs.toList.map ev) (xs.map ρ) := by
  refine ⟨by simp, fun j a u ha hu => ?_⟩
  simp only [List.getElem?_map, Option.map_eq_some_iff, Array.getElem?_toList] at ha
  obtain ⟨p, hp, rfl⟩ := ha
  simp [hp] at hu
  subst hu
  exact hev p

theorem relO_map {c : Cx} {ev : Operand → AV} {ρ : Operand → Value} (hev : ∀ x, Rel c (ev x) (ρ x)) (x : Option Operand) : RelO c (x.map ev) (x.map ρ) := by
  cases x with
  | none => trivial
  | some x => exact hev x

theorem list_two {α : Type} {a : Array α} {x y : α} (h : a.toList = [x, y]) : a = #[x, y] := by
  apply Array.ext'; simpa using h
theorem list_one {α : Type} {a : Array α} {x : α} (h : a.toList = [x]) : a = #[x] := by
  apply Array.ext'; simpa using h

theorem aop_sound {P : Program} {o : Oper} {c : Cx} (hst : St c) {ev : Operand → AV} {ρ : Operand → Value} (hev : ∀ x, Rel c (ev x) (ρ x)) {r : AV} {h' : AH} (ha : aop P ev o.type c.h o.op = some (r, h')) : OpRel P o ρ c r h' := by
  have val : ∀ {x : Value} {s : Sem Value}, execOp ρ o = (do pure (.value (← s))) → s.run P c.w = .ok x c.w → (execOp ρ o).run P c.w = .ok (.value x) c.w := by
    intro x s h1 h2; rw [h1]; simp [h2]
  have val' : ∀ {x : Value} {s : Sem Value} {w : World}, execOp ρ o = (do pure (.value (← s))) → s.run P c.w = .ok x w → (execOp ρ o).run P c.w = .ok (.value x) w := by
    intro x s w h1 h2; rw [h1]; simp [h2]
  have unit' : ∀ {s : Sem Unit} {w : World}, execOp ρ o = (do s; pure .skip) → s.run P c.w = .ok () w → (execOp ρ o).run P c.w = .ok .skip w := by
    intro s w h1 h2; rw [h1]; simp [h2]
  cases hop : o.op with
  | move x => simp only [aop, hop] at ha; cases ha; exact OpRel.pure hst (x := ρ x) (by simp [execOp, hop]) (hev x)
  | assign x => simp only [aop, hop] at ha; cases ha; exact OpRel.pure hst (x := ρ x) (by simp [execOp, hop]) (hev x)
  | pick q a b =>
    simp only [aop, hop] at ha
    split at ha
    · rename_i t hq
      cases ha
      have h1 := hev q
      rw [hq] at h1
      generalize hu : ρ q = u at h1
      cases h1
      refine OpRel.pure hst (x := if t then ρ a else ρ b) (by simp [execOp, hop, hu, asBool]) ?_
      cases t
      · exact hev b
      · exact hev a
    · cases ha
  | alloc t =>
    simp only [aop, hop] at ha
    split at ha
    · rename_i z hz
      split at ha
      · rename_i h1
        cases ha
        obtain ⟨c', hrun, h2, h3, h4, h5⟩ := alloc_sound (P := P) hst hz h1
        exact ⟨c', h2, h3, h4, .inl ⟨_, val' (by simp [execOp, hop]) hrun, h5⟩⟩
      · cases ha
    · cases ha
  | box t x =>
    simp only [aop, hop] at ha
    split at ha
    · rename_i h1
      cases ha
      obtain ⟨c', hrun, h2, h3, h4, h5⟩ := box_sound (P := P) (ty := t) hst (hev x) h1
      exact ⟨c', h2, h3, h4, .inl ⟨_, val' (by simp [execOp, hop]) hrun, h5⟩⟩
    · cases ha
  | build t parts =>
    simp only [aop, hop, Option.map_eq_some_iff] at ha
    obtain ⟨a, ha, he⟩ := ha
    cases he
    obtain ⟨h1, h2⟩ := relL_parts hev parts
    obtain ⟨y, hrun, hr⟩ := build_sound ha h1 h2
    exact OpRel.pure hst (val (by simp [execOp, hop]) hrun) hr
  | buildSlice t len parts =>
    simp only [aop, hop] at ha
    obtain ⟨h1, h2⟩ := relL_parts hev parts
    obtain ⟨y, c', hrun, h3, h4, h5, h6⟩ := buildSlice_sound hst ha h1 h2
    exact ⟨c', h3, h4, h5, .inl ⟨_, val' (by simp [execOp, hop]) hrun, h6⟩⟩
  | load t a =>
    simp only [aop, hop, Option.map_eq_some_iff] at ha
    obtain ⟨x, ha, he⟩ := ha
    cases he
    obtain ⟨y, hrun, hr⟩ := aLoad_sound hst ha (hev a)
    exact OpRel.pure hst (val (by simp [execOp, hop]) hrun) hr
  | store t a x =>
    simp only [aop, hop, Option.map_eq_some_iff] at ha
    obtain ⟨h2, ha, he⟩ := ha
    cases he
    obtain ⟨c', hrun, h3, h4, h5⟩ := aStore_sound hst ha (hev a) (hev x)
    exact ⟨c', h3, h4, h5, .inr ⟨unit' (by simp [execOp, hop]) hrun, .v _⟩⟩
  | binOp op t x y yt =>
    simp only [aop, hop, Option.map_eq_some_iff] at ha
    obtain ⟨a, ha, he⟩ := ha
    cases he
    obtain ⟨z, hrun, hr⟩ := bin_sound hst ha (hev x) (hev y)
    exact OpRel.pure hst (val (by simp [execOp, hop]) hrun) hr
  | unOp op t x =>
    simp only [aop, hop] at ha
    split at ha
    · rename_i a hx
      simp only [Option.map_eq_some_iff] at ha
      obtain ⟨y, ha, he⟩ := ha
      cases he
      have h1 := hev x
      rw [hx] at h1
      generalize hu : ρ x = u at h1
      cases h1
      exact OpRel.pure hst (val (by simp [execOp, hop, hu]) (pv_run ha _)) (.v _)
    · cases ha
  | convert s d x =>
    simp only [aop, hop] at ha
    split at ha
    · rename_i a hx
      simp only [Option.map_eq_some_iff] at ha
      obtain ⟨y, ha, he⟩ := ha
      cases he
      have h1 := hev x
      rw [hx] at h1
      generalize hu : ρ x = u at h1
      cases h1
      exact OpRel.pure hst (val (by simp [execOp, hop, hu]) (pv_run ha _)) (.v _)
    · cases ha
  | makeFunc f a b =>
    simp only [aop, hop] at ha
    cases ha
    have h1 := relL_map hev a
    have h2 := relL_map hev b
    exact OpRel.pure hst (x := .func f (a.map ρ) (b.map ρ)) (by simp [execOp, hop, Instr.makeFunc]) (.fn f _ _ _ _ h1.1 h2.1 h1.2 h2.2)
  | makeInterface t x =>
    simp only [aop, hop] at ha
    split at ha
    · cases ha
    · rename_i d hd hu
      cases ha
      refine OpRel.pure hst (x := .iface t (ρ x)) (val (s := Instr.makeInterface t (ρ x)) (by simp [execOp, hop]) ?_) (.ifc t _ _ (hev x))
      cases d <;> first | (exact (hd _ rfl).elim) | simp [Instr.makeInterface, underlying, hu]
    · cases ha
  | makeMap t r =>
    simp only [aop, hop] at ha
    split at ha
    · rename_i hr
      cases ha
      cases r with
      | none =>
        obtain ⟨c', hrun, h2, h3, h4, h5⟩ := makeMap_sound (P := P) hst t none (fun v h => by cases h)
        exact ⟨c', h2, h3, h4, .inl ⟨_, val' (by simp [execOp, hop]) hrun, h5⟩⟩
      | some x => simp at hr
    · rename_i q n hr
      split at ha
      · rename_i hm
        cases ha
        cases r with
        | none => simp at hr
        | some x =>
          simp only [Option.map_some, Option.some.injEq] at hr
          have h1 := hev x
          rw [hr] at h1
          generalize hu : ρ x = u at h1
          cases h1
          obtain ⟨c', hrun, h2, h3, h4, h5⟩ := makeMap_sound (P := P) hst t (some (.int q n)) (fun v h => by
            cases h
            refine ⟨?_, q, n, rfl⟩
            unfold tyIsMap at hm
            split at hm
            · rename_i k e hu'; exact ⟨k, e, hu'⟩
            · cases hm)
          exact ⟨c', h2, h3, h4, .inl ⟨_, val' (by simp [execOp, hop, hu]) hrun, h5⟩⟩
      · cases ha
    · cases ha
  | slice t x lo hi mx =>
    simp only [aop, hop] at ha
    cases mx with
    | some m =>
      simp only at ha
      obtain ⟨y, c', hrun, h2, h3, h4, h5⟩ := slice0_sound hst ha (hev x) (relO_map hev lo) (relO_map hev hi) (relO_map hev (some m))
      exact ⟨c', h2, h3, h4, .inl ⟨_, val' (by simp [execOp, hop]) hrun, h5⟩⟩
    | none =>
      simp only [Option.map_eq_some_iff] at ha
      obtain ⟨y, ha, he⟩ := ha
      cases he
      obtain ⟨y, hrun, hr⟩ := slice_sound hst ha (hev x) (relO_map hev lo) (relO_map hev hi)
      exact OpRel.pure hst (val (by simp [execOp, hop]) hrun) hr
  | fieldAddr t x i =>
    simp only [aop, hop, Option.map_eq_some_iff] at ha
    obtain ⟨y, ha, he⟩ := ha
    cases he
    obtain ⟨y, hrun, hr⟩ := fieldAddr_sound ha (hev x)
    exact OpRel.pure hst (val (by simp [execOp, hop]) hrun) hr
  | field t x i =>
    simp only [aop, hop, Option.map_eq_some_iff] at ha
    obtain ⟨y, ha, he⟩ := ha
    cases he
    obtain ⟨y, hrun, hr⟩ := field_sound ha (hev x)
    exact OpRel.pure hst (val (by simp [execOp, hop]) hrun) hr
  | indexAddr t x i =>
    simp only [aop, hop, Option.map_eq_some_iff] at ha
    obtain ⟨y, ha, he⟩ := ha
    cases he
    obtain ⟨y, hrun, hr⟩ := indexAddr_sound ha (hev x) (hev i)
    exact OpRel.pure hst (val (by simp [execOp, hop]) hrun) hr
  | index t x i =>
    simp only [aop, hop] at ha
    split at ha
    · rename_i a b hx hi
      simp only [Option.map_eq_some_iff] at ha
      obtain ⟨y, ha, he⟩ := ha
      cases he
      have h1 := hev x
      rw [hx] at h1
      have h2 := hev i
      rw [hi] at h2
      generalize hu : ρ x = u at h1
      generalize hu2 : ρ i = u2 at h2
      cases h1; cases h2
      exact OpRel.pure hst (val (by simp [execOp, hop, hu, hu2]) (pv_run ha _)) (.v _)
    · cases ha
  | lookup t x k ok =>
    simp only [aop, hop, Option.map_eq_some_iff] at ha
    obtain ⟨y, ha, he⟩ := ha
    cases he
    obtain ⟨y, hrun, hr⟩ := lookup_sound hst ha (hev x) (hev k)
    exact OpRel.pure hst (val (by simp [execOp, hop]) hrun) hr
  | mapUpdate t m k x =>
    simp only [aop, hop, Option.map_eq_some_iff] at ha
    obtain ⟨h2, ha, he⟩ := ha
    cases he
    obtain ⟨c', hrun, h3, h4, h5⟩ := mapUpdate_sound hst ha (hev m) (hev k) (hev x)
    exact ⟨c', h3, h4, h5, .inr ⟨unit' (by simp [execOp, hop]) hrun, .v _⟩⟩
  | insert t m k x =>
    simp only [aop, hop, Option.map_eq_some_iff] at ha
    obtain ⟨h2, ha, he⟩ := ha
    cases he
    obtain ⟨c', hrun, h3, h4, h5⟩ := mapUpdate_sound hst ha (hev m) (hev k) (hev x)
    exact ⟨c', h3, h4, h5, .inr ⟨unit' (by simp [execOp, hop]) hrun, .v _⟩⟩
  | extract t i =>
    simp only [aop, hop, Option.map_eq_some_iff] at ha
    obtain ⟨y, ha, he⟩ := ha
    cases he
    obtain ⟨y, hrun, hr⟩ := extract_sound ha (hev t)
    exact OpRel.pure hst (val (by simp [execOp, hop]) hrun) hr
  | call q =>
    obtain ⟨callee, args, argTypes⟩ := q
    cases callee with
    | builtin b =>
      cases b <;> simp only [aop, hop] at ha <;> try (cases ha; done)
      case append =>
        split at ha
        · rename_i x y t u hx ht
          have e1 := list_two hx
          have e2 := list_two ht
          subst e1; subst e2
          obtain ⟨y, c', hrun, h3, h4, h5, h6⟩ := append_sound (ty := o.type) hst ha (hev x) (hev y)
          exact ⟨c', h3, h4, h5, .inl ⟨y, by simp [execOp, hop, resolve, invoke, builtin, hrun], h6⟩⟩
        · cases ha
      case len =>
        split at ha
        · rename_i x t hx ht
          simp only [Option.map_eq_some_iff] at ha
          obtain ⟨y, ha, he⟩ := ha
          cases he
          have e1 := list_one hx
          have e2 := list_one ht
          subst e1; subst e2
          obtain ⟨y, hrun, hr⟩ := len_sound hst ha (hev x)
          exact OpRel.pure hst (by simp [execOp, hop, resolve, invoke, builtin, hrun]) hr
        · cases ha
      case max =>
        split at ha
        · rename_i a b hab
          simp only [Option.map_eq_some_iff] at ha
          obtain ⟨y, ha, he⟩ := ha
          cases he
          obtain ⟨x, y', hx⟩ : ∃ x y', args.toList = [x, y'] := by
            have := congrArg List.length hab
            simp at this
            match hl : args.toList with
            | [x, y'] => exact ⟨x, y', rfl⟩
            | [] => rw [hl] at hab; simp at hab
            | [_] => rw [hl] at hab; simp at hab
            | _ :: _ :: _ :: _ => rw [hl] at hab; simp at hab
          rw [hx] at hab
          simp only [List.map_cons, List.map_nil, List.cons.injEq, and_true] at hab
          have e1 := list_two hx
          subst e1
          have h1 := hev x
          have h2 := hev y'
          rw [hab.1] at h1
          rw [hab.2] at h2
          generalize hu : ρ x = u at h1
          generalize hu2 : ρ y' = u2 at h2
          cases h1; cases h2
          exact OpRel.pure hst (by simp [execOp, hop, resolve, invoke, builtin, hu, hu2, pv_run ha]) (.v _)
        · cases ha
      case min =>
        split at ha
        · rename_i a b hab
          simp only [Option.map_eq_some_iff] at ha
          obtain ⟨y, ha, he⟩ := ha
          cases he
          obtain ⟨x, y', hx⟩ : ∃ x y', args.toList = [x, y'] := by
            match hl : args.toList with
            | [x, y'] => exact ⟨x, y', rfl⟩
            | [] => rw [hl] at hab; simp at hab
            | [_] => rw [hl] at hab; simp at hab
            | _ :: _ :: _ :: _ => rw [hl] at hab; simp at hab
          rw [hx] at hab
          simp only [List.map_cons, List.map_nil, List.cons.injEq, and_true] at hab
          have e1 := list_two hx
          subst e1
          have h1 := hev x
          have h2 := hev y'
          rw [hab.1] at h1
          rw [hab.2] at h2
          generalize hu : ρ x = u at h1
          generalize hu2 : ρ y' = u2 at h2
          cases h1; cases h2
          exact OpRel.pure hst (by simp [execOp, hop, resolve, invoke, builtin, hu, hu2, pv_run ha]) (.v _)
        · cases ha
    | value f => simp only [aop, hop] at ha; cases ha
    | invoke a b => simp only [aop, hop] at ha; cases ha
  | _ => simp only [aop, hop] at ha; cases ha

end Go.Proofs.Ytplnbmldkgcedaa.Ab
