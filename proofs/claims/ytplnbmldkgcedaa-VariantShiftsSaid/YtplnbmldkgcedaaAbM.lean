/-
  The abstract program logic: what an operation looks at; an operation over a heap that has grown.
-/
import Derived.Test.YtplnbmldkgcedaaAbS
set_option linter.unusedVariables false
set_option maxHeartbeats 4000000
set_option linter.unusedSectionVars false
namespace Go.Proofs.Ytplnbmldkgcedaa.Ab

/-- what was there is there, but for the rows that grow -/
def Keep (h h' : AH) : Prop := ∀ (id : Nat) (b : AB), h[id]? = some b → (∀ e s n, b ≠ .grow e s n) → h'[id]? = some b
theorem Keep.refl (h : AH) : Keep h h := fun _ _ h _ => h
theorem Keep.trans {a b c : AH} (h : Keep a b) (k : Keep b c) : Keep a c := fun id x hx hn => k id x (h id x hx hn) hn
theorem Keep.nil (h : AH) : Keep [] h := fun id b hb => by simp at hb
theorem Keep.app (h l : AH) : Keep h (h ++ l) := fun id b hb _ => hext hb l
theorem Keep.setGrow {h : AH} {i : Nat} {e s n : Nat} (hi : h[i]? = some (.grow e s n)) (b : AB) : Keep h (h.set i b) := fun id x hx hn => by
  have hne : i ≠ id := fun e' => by subst e'; rw [hi] at hx; cases hx; exact hn _ _ _ rfl
  rw [List.getElem?_set_ne hne]; exact hx

/-- operations that leave the heap as it is -/
def lightK : Op → Bool
  | .move _ | .assign _ | .pick .. | .build .. | .load .. | .binOp .. | .unOp .. | .convert .. | .makeFunc .. | .makeInterface .. | .fieldAddr .. | .field .. | .indexAddr .. | .index .. | .lookup .. | .extract .. => true
  | .buildSlice _ n _ => n != 0
  | .slice _ _ _ _ m => m.isNone
  | .call c => match c.callee with
    | .builtin .len | .builtin .min | .builtin .max => true
    | _ => false
  | _ => false

/-- operations that only add to the heap -/
def addsK : Op → Bool
  | .alloc _ | .box .. | .buildSlice .. | .makeMap .. => true
  | .slice _ _ _ _ m => m.isSome
  | .call c => match c.callee with
    | .builtin .append => true
    | _ => false
  | _ => false

theorem map_pair {α : Type} {x : Option α} {h h1 : AH} {r : α} (e : x.map (·, h) = some (r, h1)) : x = some r ∧ h1 = h := by
  cases x <;> simp at e
  exact ⟨by rw [e.1], e.2.symm⟩

theorem get_cells {h h' : AH} (k : Keep h h') {id : Nat} {t s : Nat} {xs : List AV} (e : h[id]? = some (.cells t s xs)) : h'[id]? = some (.cells t s xs) := k id _ e (fun _ _ _ h => by cases h)
theorem get_map {h h' : AH} (k : Keep h h') {id : Nat} {es : List (Value × AV)} (e : h[id]? = some (.map es)) : h'[id]? = some (.map es) := k id _ e (fun _ _ _ h => by cases h)

section
variable {P : Program} {h h' : AH} (k : Keep h h')
include k

theorem aLoad_mono {t : TypeId} {x r : AV} (e : aLoad P t x h = some r) : aLoad P t x h' = some r := by
  unfold aLoad at e ⊢
  cases x <;> simp only at e ⊢ <;> try exact e
  split at e
  · rename_i hb; rw [get_cells k hb]; exact e
  · cases e

theorem aFieldAddr_mono {t : TypeId} {x r : AV} {i : Nat} (e : aFieldAddr P t x i h = some r) : aFieldAddr P t x i h' = some r := by
  unfold aFieldAddr at e ⊢
  cases hf : fieldInfo P t i with
  | none => simp [hf] at e
  | some p =>
    simp only [hf] at e ⊢
    cases x <;> simp only at e ⊢ <;> try exact e
    split at e
    · rename_i hb; rw [get_cells k hb]; exact e
    · cases e

theorem aIndexAddr_mono {t : TypeId} {x i r : AV} (e : aIndexAddr P t x i h = some r) : aIndexAddr P t x i h' = some r := by
  unfold aIndexAddr at e ⊢
  cases hf : elemInfo P t with
  | none => simp [hf] at e
  | some p =>
    simp only [hf] at e ⊢
    split at e
    · cases x <;> simp only at e ⊢ <;> try exact e
      split at e
      · rename_i hb; rw [get_cells k hb]; exact e
      · cases e
    · cases e

theorem aLen_mono {t ty : TypeId} {x r : AV} (e : aLen P t ty x h = some r) : aLen P t ty x h' = some r := by
  unfold aLen at e ⊢
  cases x <;> simp only at e ⊢ <;> try exact e
  · split at e
    · rename_i hu hb; rw [hu, get_cells k hb]; exact e
    · cases e
  · split at e
    · rename_i hu hb; rw [hu, get_map k hb]; exact e
    · cases e

theorem aSlice_mono {t : TypeId} {x r : AV} {lo hi : Option AV} (e : aSlice P t x lo hi h = some r) : aSlice P t x lo hi h' = some r := by
  unfold aSlice at e ⊢
  cases hf : elemInfo P t with
  | none => simp only [hf] at e ⊢; exact e
  | some p =>
    simp only [hf] at e ⊢
    split at e <;> try exact e
    split at e
    · rename_i hb; rw [get_cells k hb]; exact e
    · cases e

theorem notNil_mono {t : TypeId} {x : AV} {b : Value} (e : notNil P t h x b = true) : notNil P t h' x b = true := by
  unfold notNil at e ⊢
  split at e <;> first
    | exact e
    | (split at e
       · rename_i hu hb
         first
           | rw [hu, get_cells k hb]
           | rw [hu, get_map k hb]
       · cases e)
    | cases e

theorem aBin_mono {op : BinOp} {t : TypeId} {xo yo : Operand} {x y r : AV} (e : aBin P op t xo yo x y h = some r) : aBin P op t xo yo x y h' = some r := by
  unfold aBin at e ⊢
  split at e
  · exact e
  · rename_i b hnv
    split at e
    · split at e
      · rename_i hn; rw [notNil_mono k hn]; simpa using e
      · cases e
    · split at e
      · rename_i hn; rw [notNil_mono k hn]; simpa using e
      · cases e
    · cases e
  · cases e

theorem aLookup_mono {t : TypeId} {x y r : AV} {ok : Bool} (e : aLookup P t x y ok h = some r) : aLookup P t x y ok h' = some r := by
  unfold aLookup at e ⊢
  cases hf : mapInfo P t with
  | none => simp [hf] at e
  | some p =>
    simp only [hf] at e ⊢
    cases y with
    | v kv =>
      simp only at e ⊢
      cases x with
      | mp id =>
        simp only at e ⊢
        cases hb : h[id]? with
        | none => simp [hb] at e
        | some b =>
          cases b with
          | map es => rw [get_map k hb]; rw [hb] at e; exact e
          | _ => simp [hb] at e
      | v x => cases x with
        | map r => cases r <;> exact e
        | _ => exact e
      | _ => exact e
    | _ => exact e

theorem aBuildSlice_mono {t : TypeId} {n : Nat} (hn : (n != 0) = true) {parts : List (Nat × AV)} {r : AV} {h1 : AH} (e : aBuildSlice P t n parts h = some (r, h1)) : h1 = h ∧ aBuildSlice P t n parts h' = some (r, h') := by
  unfold aBuildSlice at e ⊢
  have hn' : n ≠ 0 := by simpa using hn
  cases hf : elemInfo P t with
  | none => simp [hf] at e
  | some p =>
    simp only [hf, if_neg hn'] at e ⊢
    split at e
    · rename_i hc; rw [if_pos hc]; cases e; exact ⟨rfl, rfl⟩
    · cases e

/-- an operation that leaves the heap yields the same over a heap that has grown -/
theorem aop_mono {ev : Operand → AV} {ty : TypeId} {op : Op} (hl : lightK op = true) {r : AV} {h1 : AH} (e : aop P ev ty h op = some (r, h1)) : h1 = h ∧ aop P ev ty h' op = some (r, h') := by
  cases op with
  | move x => simp only [aop] at e ⊢; cases e; exact ⟨rfl, rfl⟩
  | assign x => simp only [aop] at e ⊢; cases e; exact ⟨rfl, rfl⟩
  | pick c a b =>
    simp only [aop] at e ⊢
    split at e
    · cases e; exact ⟨rfl, rfl⟩
    · cases e
  | build t parts => simp only [aop] at e ⊢; obtain ⟨e1, e2⟩ := map_pair e; rw [e1]; exact ⟨e2, rfl⟩
  | buildSlice t n parts => simp only [aop] at e ⊢; exact aBuildSlice_mono k hl e
  | load t a => simp only [aop] at e ⊢; obtain ⟨e1, e2⟩ := map_pair e; rw [aLoad_mono k e1]; exact ⟨e2, rfl⟩
  | binOp b t x y t2 => simp only [aop] at e ⊢; obtain ⟨e1, e2⟩ := map_pair e; rw [aBin_mono k e1]; exact ⟨e2, rfl⟩
  | unOp b t x =>
    simp only [aop] at e ⊢
    split at e
    · obtain ⟨z, e1, e2⟩ := Option.map_eq_some_iff.1 e; cases e2; rw [e1]; exact ⟨rfl, rfl⟩
    · cases e
  | convert s d x =>
    simp only [aop] at e ⊢
    split at e
    · obtain ⟨z, e1, e2⟩ := Option.map_eq_some_iff.1 e; cases e2; rw [e1]; exact ⟨rfl, rfl⟩
    · cases e
  | makeFunc f a b => simp only [aop] at e ⊢; cases e; exact ⟨rfl, rfl⟩
  | makeInterface t x =>
    simp only [aop] at e ⊢
    split at e
    · cases e
    · cases e; exact ⟨rfl, rfl⟩
    · cases e
  | slice t x lo hi mx =>
    simp only [aop] at e ⊢
    cases mx with
    | none => simp only at e ⊢; obtain ⟨e1, e2⟩ := map_pair e; rw [aSlice_mono k e1]; exact ⟨e2, rfl⟩
    | some m => simp [lightK] at hl
  | fieldAddr t x i => simp only [aop] at e ⊢; obtain ⟨e1, e2⟩ := map_pair e; rw [aFieldAddr_mono k e1]; exact ⟨e2, rfl⟩
  | field t x i => simp only [aop] at e ⊢; obtain ⟨e1, e2⟩ := map_pair e; rw [e1]; exact ⟨e2, rfl⟩
  | indexAddr t x i => simp only [aop] at e ⊢; obtain ⟨e1, e2⟩ := map_pair e; rw [aIndexAddr_mono k e1]; exact ⟨e2, rfl⟩
  | index t x i =>
    simp only [aop] at e ⊢
    split at e
    · obtain ⟨z, e1, e2⟩ := Option.map_eq_some_iff.1 e; cases e2; rw [e1]; exact ⟨rfl, rfl⟩
    · cases e
  | lookup t x y ok => simp only [aop] at e ⊢; obtain ⟨e1, e2⟩ := map_pair e; rw [aLookup_mono k e1]; exact ⟨e2, rfl⟩
  | extract t i => simp only [aop] at e ⊢; obtain ⟨e1, e2⟩ := map_pair e; rw [e1]; exact ⟨e2, rfl⟩
  | call c =>
    obtain ⟨cal, args, tys⟩ := c
    cases cal with
    | builtin b =>
      cases b with
      | len =>
        simp only [aop] at e ⊢
        split at e
        · obtain ⟨e1, e2⟩ := map_pair e; rw [aLen_mono k e1]; exact ⟨e2, rfl⟩
        · cases e
      | min =>
        simp only [aop] at e ⊢
        split at e
        · obtain ⟨z, e1, e2⟩ := Option.map_eq_some_iff.1 e; cases e2; rw [e1]; exact ⟨rfl, rfl⟩
        · cases e
      | max =>
        simp only [aop] at e ⊢
        split at e
        · obtain ⟨z, e1, e2⟩ := Option.map_eq_some_iff.1 e; cases e2; rw [e1]; exact ⟨rfl, rfl⟩
        · cases e
      | _ => simp [lightK] at hl
    | _ => simp [lightK] at hl
  | _ => simp [lightK] at hl
end

/-- an operation that adds keeps what was there -/
theorem aop_keep {P : Program} {h : AH} {ev : Operand → AV} {ty : TypeId} {op : Op} (hl : addsK op = true) {r : AV} {h1 : AH} (e : aop P ev ty h op = some (r, h1)) : Keep h h1 := by
  cases op with
  | alloc t =>
    simp only [aop] at e
    split at e
    · split at e
      · cases e; exact Keep.app _ _
      · cases e
    · cases e
  | box t x =>
    simp only [aop] at e
    split at e
    · cases e; exact Keep.app _ _
    · cases e
  | buildSlice t n parts =>
    simp only [aop, aBuildSlice] at e
    split at e
    · split at e
      · split at e
        · cases e; exact Keep.app _ _
        · cases e; exact Keep.refl _
      · cases e
    · cases e
  | slice t x lo hi mx =>
    cases mx with
    | none => simp [addsK] at hl
    | some m =>
      simp only [aop, aSlice0] at e
      split at e
      · split at e
        · cases e; exact Keep.app _ _
        · cases e
      · cases e
  | makeMap t r =>
    simp only [aop] at e
    split at e
    · cases e; exact Keep.app _ _
    · split at e
      · cases e; exact Keep.app _ _
      · cases e
    · cases e
  | call c =>
    obtain ⟨cal, args, tys⟩ := c
    cases cal with
    | builtin b =>
      cases b with
      | append =>
        simp only [aop] at e
        split at e
        · unfold aAppend at e
          split at e
          · split at e
            · split at e
              · split at e
                · cases e; exact Keep.app _ _
                · cases e
              · split at e
                · rename_i hb
                  split at e
                  · cases e; exact Keep.setGrow hb _
                  · cases e
                · split at e
                  · split at e
                    · cases e; exact Keep.refl _
                    · cases e; exact Keep.app _ _
                  · cases e
                · cases e
              · cases e
            · cases e
          · cases e
        · cases e
      | _ => simp [addsK] at hl
    | _ => simp [addsK] at hl
  | _ => simp [addsK] at hl

/-- operations that write -/
def writesK : Op → Bool
  | .store .. | .mapUpdate .. | .insert .. => true
  | _ => false

/-- the operands that an operation looks at -/
theorem aop_congr {P : Program} {h : AH} {ev ev' : Operand → AV} {ty : TypeId} {op : Op} (he : ∀ x ∈ op.operands, ev x = ev' x) (hl : (lightK op || addsK op || writesK op) = true) : aop P ev ty h op = aop P ev' ty h op := by
  have hp : ∀ {α : Type} (parts : Array (α × Operand)), (∀ x ∈ parts.map (·.2), ev x = ev' x) → (parts.toList.map fun p => (p.1, ev p.2)) = (parts.toList.map fun p => (p.1, ev' p.2)) := fun parts hh => by
    refine List.map_congr_left fun p hp => ?_
    rw [hh p.2 (Array.mem_map.2 ⟨p, Array.mem_def.2 hp, rfl⟩)]
  have ha : ∀ (l : Array Operand), (∀ x ∈ l, ev x = ev' x) → l.toList.map ev = l.toList.map ev' := fun l hh => List.map_congr_left fun p hp => hh p (Array.mem_def.2 hp)
  have ho : ∀ (l : Option Operand), (∀ x, l = some x → ev x = ev' x) → l.map ev = l.map ev' := fun l hh => by
    cases l with
    | none => rfl
    | some x => simp [hh x rfl]
  cases op with
  | build t parts => simp only [aop]; rw [hp parts (fun x hx => he x (by simpa [Op.operands] using hx))]
  | buildSlice t n parts => simp only [aop]; rw [hp parts (fun x hx => he x (by simpa [Op.operands] using hx))]
  | makeFunc f a b =>
    simp only [aop]
    rw [ha a (fun x hx => he x (by simp [Op.operands, hx])), ha b (fun x hx => he x (by simp [Op.operands, hx]))]
  | makeMap t r => simp only [aop]; rw [ho r (fun x hx => he x (by simp [Op.operands, hx]))]
  | slice t x l hh m =>
    simp only [aop]
    rw [ho l (fun x hx => he x (by simp [Op.operands, hx])), ho hh (fun x hx => he x (by simp [Op.operands, hx])), he x (by simp [Op.operands])]
    cases m with
    | none => rfl
    | some m => simp only; rw [he m (by simp [Op.operands])]
  | call c =>
    obtain ⟨cal, args, tys⟩ := c
    cases cal with
    | builtin b =>
      have hargs := ha args (fun x hx => he x (by simp [Op.operands, Call.operands, hx]))
      have hone : ∀ x, args.toList = [x] → ev x = ev' x := fun x hx => he x (by simp [Op.operands, Call.operands, Array.mem_def, hx])
      have htwo : ∀ x y, args.toList = [x, y] → ev x = ev' x ∧ ev y = ev' y := fun x y hx => ⟨he x (by simp [Op.operands, Call.operands, Array.mem_def, hx]), he y (by simp [Op.operands, Call.operands, Array.mem_def, hx])⟩
      cases b with
      | len =>
        simp only [aop]
        split
        · rename_i h1 h2; rw [hone _ h1]
        · rfl
      | append =>
        simp only [aop]
        split
        · rename_i h1 h2; rw [(htwo _ _ h1).1, (htwo _ _ h1).2]
        · rfl
      | min => simp only [aop]; rw [hargs]
      | max => simp only [aop]; rw [hargs]
      | _ => rfl
    | _ => simp [lightK, addsK, writesK] at hl
  | _ =>
    first
      | (simp [lightK, addsK, writesK] at hl; done)
      | (simp [Op.operands] at he; simp only [aop, he]; done)
      | (simp only [aop]; done)
end Go.Proofs.Ytplnbmldkgcedaa.Ab
