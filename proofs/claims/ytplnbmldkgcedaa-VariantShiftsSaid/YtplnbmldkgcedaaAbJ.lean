/-
  The abstract program logic: comparisons, parts of structs and tuples, maps.
-/
import Derived.Test.YtplnbmldkgcedaaAbI
set_option linter.unusedVariables false
set_option maxHeartbeats 4000000
namespace Go.Proofs.Ytplnbmldkgcedaa.Ab

/-! ### comparison with nil -/

/-- a value that is not nil, of a type that is compared with nil -/
def notNil (P : Program) (t : TypeId) (h : AH) : AV → Value → Bool
  | .sl _ (_ :: _) _, .slice none 0 0 => match P.underlying t with | some (.slice _) => true | _ => false
  | .arr id _ _, .slice none 0 0 => match P.underlying t, h[id]? with | some (.slice _), some (.cells _ _ _) => true | _, _ => false
  | .ptr id _ _, .pointer none => match P.underlying t, h[id]? with | some (.pointer _), some (.cells _ _ _) => true | _, _ => false
  | .pin _ _ _ _, .pointer none => match P.underlying t with | some (.pointer _) => true | _ => false
  | .mp id, .map none => match P.underlying t, h[id]? with | some (.map _ _), some (.map _) => true | _, _ => false
  | .fn _ _ _, .nilFunc => match P.underlying t with | some (.func _ _ _) => true | _ => false
  | .ifc _ _, .nilIface => match P.underlying t with | some (.interface _) => true | _ => false
  | _, _ => false

theorem notNil_sound {P : Program} {c : Cx} (hst : St c) {t : TypeId} {x : AV} {u y : Value} (h : notNil P t c.h x y = true) (hx : Rel c x u) (d : Nat) : (Op.equalIn (d + 1) t u y).run P c.w = .ok false c.w := by
  cases hx with
  | sl s xs own B o cap f hs hcap hmax hc hr ht =>
    cases xs with
    | nil => simp [notNil] at h
    | cons z zs =>
      simp only [notNil] at h
      split at h <;> simp_all
      split at h <;> simp_all
      rename_i hu
      simp [Op.equalIn, underlying, hu]
  | arr id lo len x hid ho h1 =>
    simp only [notNil] at h
    split at h <;> simp_all
    split at h <;> simp_all
    rename_i hu hb
    obtain ⟨B, _, cap, rfl, _⟩ := h1
    simp [Op.equalIn, underlying, hu]
  | ptr id k off x hid ho h1 =>
    simp only [notNil] at h
    split at h <;> simp_all
    split at h <;> simp_all
    rename_i hu hb
    obtain ⟨B, _, rfl⟩ := h1
    simp [Op.equalIn, underlying, hu]
  | pin s xs k off B o f hs hc hr =>
    simp only [notNil] at h
    split at h <;> simp_all
    split at h <;> simp_all
    rename_i hu
    simp [Op.equalIn, underlying, hu]
  | mp id x hid ho h1 =>
    simp only [notNil] at h
    split at h <;> simp_all
    split at h <;> simp_all
    rename_i hu hb
    first | (obtain ⟨B, _, rfl⟩ := h1.1; simp [Op.equalIn, underlying, hu]) | (obtain ⟨B, _, rfl⟩ := h1; simp [Op.equalIn, underlying, hu])
  | fn f first cap vs ws e1 e2 h1 h2 =>
    simp only [notNil] at h
    split at h <;> simp_all
    split at h <;> simp_all
    rename_i hu
    simp [Op.equalIn, underlying, hu]
  | ifc t' a u h1 =>
    simp only [notNil] at h
    split at h <;> simp_all
    split at h <;> simp_all
    rename_i hu
    simp [Op.equalIn, underlying, hu]
  | _ => simp [notNil] at h

def aBin (P : Program) (op : BinOp) (t : TypeId) (xo yo : Operand) (x y : AV) (h : AH) : Option AV :=
  match x, y with
  | .v a, .v b => (pv P (do eqGuard op t xo yo a b; binOp op t a b)).map .v
  | x, .v b => match op with
    | .eql => if notNil P t h x b = true then some (.v (.bool false)) else none
    | .neq => if notNil P t h x b = true then some (.v (.bool true)) else none
    | _ => none
  | _, _ => none

theorem notNil_shape {P : Program} {t : TypeId} {h : AH} {x : AV} {b : Value} (hn : notNil P t h x b = true) : b = .slice none 0 0 ∨ b = .pointer none ∨ b = .map none ∨ b = .nilFunc ∨ b = .nilIface := by
  unfold notNil at hn
  split at hn <;> simp_all

theorem bin_sound {P : Program} {c : Cx} (hst : St c) {op : BinOp} {t : TypeId} {xo yo : Operand} {x y r : AV} {u v : Value} (ha : aBin P op t xo yo x y c.h = some r) (hx : Rel c x u) (hy : Rel c y v) :
    ∃ z, (do eqGuard op t xo yo u v; binOp op t u v : Sem Value).run P c.w = .ok z c.w ∧ Rel c r z := by
  unfold aBin at ha
  split at ha
  · cases hx; cases hy
    rename_i a b
    cases hp : pv P (do eqGuard op t xo yo u v; binOp op t u v) with
    | none => simp [hp] at ha
    | some z => simp [hp] at ha; subst ha; exact ⟨z, pv_run hp _, .v z⟩
  · rename_i b hnv
    cases hy
    have key : notNil P t c.h x v = true → ∀ neg : Bool, (op = .eql ∧ neg = false ∨ op = .neq ∧ neg = true) →
        (do eqGuard op t xo yo u v; binOp op t u v : Sem Value).run P c.w = .ok (.bool neg) c.w := by
      intro hn neg hop
      have h1 := notNil_sound hst hn hx 9999
      have h2 : (Op.equal t u v).run P c.w = .ok false c.w := h1
      have hshape : (∃ a n k, u = .slice (some a) n k ∧ v = .slice none 0 0) ∨ (∃ a, u = .pointer (some a) ∧ v = .pointer none) ∨ (∃ a, u = .map (some a) ∧ v = .map none) ∨ (∃ f a b, u = .func f a b ∧ v = .nilFunc) ∨ (∃ t' a, u = .iface t' a ∧ v = .nilIface) := by
        cases hx with
        | sl s xs own B o cap f hs hcap hmax hc hr ht =>
          cases xs with
          | nil => simp [notNil] at hn
          | cons z zs => simp only [notNil] at hn; split at hn <;> simp_all
        | arr id lo len x hid ho h3 =>
          simp only [notNil] at hn
          split at hn <;> simp_all
          split at hn <;> simp_all
          obtain ⟨B, _, cap, rfl, _⟩ := h3
          exact ⟨_, _, _, rfl⟩
        | ptr id k off x hid ho h3 =>
          simp only [notNil] at hn
          split at hn <;> simp_all
          split at hn <;> simp_all
          obtain ⟨B, _, rfl⟩ := h3
          exact ⟨_, rfl⟩
        | pin s xs k off B o f hs hc hr => simp only [notNil] at hn; split at hn <;> simp_all
        | mp id x hid ho h3 =>
          simp only [notNil] at hn
          split at hn <;> simp_all
          split at hn <;> simp_all
          obtain ⟨B, _, rfl⟩ := h3
          exact ⟨_, rfl⟩
        | fn f first cap vs ws e1 e2 h3 h4 => simp only [notNil] at hn; split at hn <;> simp_all
        | ifc t' a u h3 => simp only [notNil] at hn; split at hn <;> simp_all
        | _ => simp [notNil] at hn
      rcases hshape with ⟨a, n, k, rfl, rfl⟩ | ⟨a, rfl, rfl⟩ | ⟨a, rfl, rfl⟩ | ⟨f, a, b, rfl, rfl⟩ | ⟨t', a, rfl, rfl⟩ <;> rcases hop with ⟨rfl, rfl⟩ | ⟨rfl, rfl⟩ <;>
        simp [eqGuard, binOp, h2]
    split at ha
    · split at ha
      · rename_i hn; cases ha; exact ⟨_, key hn false (.inl ⟨rfl, rfl⟩), .v _⟩
      · cases ha
    · split at ha
      · rename_i hn; cases ha; exact ⟨_, key hn true (.inr ⟨rfl, rfl⟩), .v _⟩
      · cases ha
    · cases ha
  · cases ha

/-! ### parts -/

def aField (P : Program) (t : TypeId) (x : AV) (i : Nat) : Option AV :=
  match fieldInfo P t i with
  | some (o, ft) => if x.isAgg = true then aPart P ft x o else none
  | none => none

theorem field_sound {P : Program} {c : Cx} {t : TypeId} {x r : AV} {i : Nat} {u : Value} (ha : aField P t x i = some r) (hx : Rel c x u) : ∃ y, (Instr.field t u i).run P c.w = .ok y c.w ∧ Rel c r y := by
  unfold aField at ha
  cases hf : fieldInfo P t i with
  | none => simp [hf] at ha
  | some ot =>
    obtain ⟨o, ft⟩ := ot
    simp only [hf] at ha
    split at ha
    · rename_i hag
      cases hx with
      | agg l cs hl hr =>
        unfold fieldInfo at hf
        cases hu : P.underlying t with
        | none => simp [hu] at hf
        | some d =>
          cases d with
          | struct fs =>
            simp only [hu] at hf
            cases hfi : fs[i]? with
            | none => simp [hfi] at hf
            | some f =>
              simp only [hfi] at hf
              cases ht : tyInfo P f.type with
              | none => simp [ht] at hf
              | some bn =>
                obtain ⟨b, n⟩ := bn
                simp only [ht] at hf
                split at hf
                · cases hf
                · cases hf
                  obtain ⟨h1, h2⟩ := tyInfo_run ht c.w
                  have run0 : (Instr.field t (.agg cs) i).run P c.w = (part f.type cs f.offset).run P c.w := by
                    simp [Instr.field, underlying, hu, hfi, asAgg]
                  rw [run0]
                  unfold aPart at ha
                  cases b with
                  | false =>
                    simp only [ht, AV.cells] at ha
                    obtain ⟨v, hv⟩ : ∃ v, cs[f.offset]? = some v := ⟨_, Array.getElem?_eq_getElem (by have := lt_of_get ha; omega)⟩
                    exact ⟨v, by simp [part, h1, hv], hr _ _ _ ha hv⟩
                  | true =>
                    simp only [ht] at ha
                    have main : ∀ l', l'.length = n → (∀ (j : Nat) a, l'[j]? = some a → l[f.offset + j]? = some a) → f.offset + n ≤ l.length →
                        ∃ y, (part f.type cs f.offset).run P c.w = .ok y c.w ∧ Rel c (.agg l') y := by
                      intro l' hl' hget hle
                      refine ⟨.agg (cs.extract f.offset (f.offset + n)), by simp [part, h1, h2], .agg _ _ (by simp; omega) ?_⟩
                      intro j a v haj hvj
                      rw [Array.getElem?_extract] at hvj
                      split at hvj
                      · exact hr _ a v (hget j a haj) hvj
                      · cases hvj
                    split at ha
                    · rename_i hh
                      cases ha
                      obtain ⟨h3, _, h4⟩ := hh
                      have h4' : l.length = n := h4
                      rw [h3] at main ⊢
                      exact main l h4' (fun j a ha => by simpa using ha) (by omega)
                    · split at ha
                      · rename_i hle0
                        have hle : f.offset + n ≤ l.length := hle0
                        cases ha
                        refine main ((l.drop f.offset).take n) (by simp; omega) (fun j a haj => ?_) hle
                        have hlt := lt_of_get haj
                        rw [List.getElem?_take_of_lt (by simp at hlt; omega), List.getElem?_drop] at haj
                        exact haj
                      · cases ha
          | _ => simp [hu] at hf
      | _ => simp [AV.isAgg] at hag
    · cases ha

def aExtract (x : AV) (i : Nat) : Option AV :=
  match x with
  | .tup l => l[i]?
  | _ => none

theorem extract_sound {P : Program} {c : Cx} {x r : AV} {i : Nat} {u : Value} (ha : aExtract x i = some r) (hx : Rel c x u) : ∃ y, (Instr.extract u i).run P c.w = .ok y c.w ∧ Rel c r y := by
  cases hx with
  | tup l cs hl hr =>
    simp only [aExtract] at ha
    obtain ⟨v, hv⟩ : ∃ v, cs[i]? = some v := ⟨_, Array.getElem?_eq_getElem (by have := lt_of_get ha; omega)⟩
    exact ⟨v, by simp [Instr.extract, hv], hr _ _ _ ha hv⟩
  | _ => simp [aExtract] at ha

/-! ### maps -/

/-- the kind of a map's key (numbers, strings, bools), its elements' type -/
def mapInfo (P : Program) (t : TypeId) : Option (TypeDesc × TypeId) :=
  match P.underlying t with
  | some (.map k e) => match P.underlying k with
    | some (.int q) => some (.int q, e)
    | some .string => some (.string, e)
    | some .bool => some (.bool, e)
    | _ => none
  | _ => none

theorem mapInfo_spec {P : Program} {t e : TypeId} {d : TypeDesc} (h : mapInfo P t = some (d, e)) : ∃ k, P.underlying t = some (.map k e) ∧ P.underlying k = some d ∧ ((∃ q, d = .int q) ∨ d = .string ∨ d = .bool) := by
  unfold mapInfo at h
  split at h
  · rename_i k e' hu
    split at h
    · rename_i q hk; cases h; exact ⟨k, hu, hk, .inl ⟨q, rfl⟩⟩
    · rename_i hk; cases h; exact ⟨k, hu, hk, .inr (.inl rfl)⟩
    · rename_i hk; cases h; exact ⟨k, hu, hk, .inr (.inr rfl)⟩
    · cases h
  · cases h

theorem checkKey_run {P : Program} {w : World} {k : TypeId} {d : TypeDesc} (hk : P.underlying k = some d) (hd : (∃ q, d = .int q) ∨ d = .string ∨ d = .bool) (b : Bool) (n : Nat) (v : Value) : (Instr.checkKey b (n + 1) k v).run P w = .ok () w := by
  rcases hd with ⟨q, rfl⟩ | rfl | rfl <;> simp [Instr.checkKey, underlying, hk]

def findA (d : TypeDesc) (k : Value) : List (Value × AV) → Option (Option AV)
  | [] => some none
  | e :: es => match Instr.sameNow d k e.1 with
    | some true => some (some e.2)
    | some false => findA d k es
    | none => none

def updA (d : TypeDesc) (k : Value) (v : AV) : List (Value × AV) → Option (List (Value × AV))
  | [] => some [(k, v)]
  | e :: es => match Instr.sameNow d k e.1 with
    | some true => some ((k, v) :: es)
    | some false => (updA d k v es).map (e :: ·)
    | none => none

/-- entries of the world and abstract entries -/
def RelM (c : Cx) (es : List (Value × AV)) (ents : List MapEntry) : Prop :=
  ents.length = es.length ∧ ∀ (j : Nat) kv e, es[j]? = some kv → ents[j]? = some e → e.key = kv.1 ∧ Rel c kv.2 e.val

theorem RelM.tail {c : Cx} {x : Value × AV} {es : List (Value × AV)} {e : MapEntry} {ents : List MapEntry} (h : RelM c (x :: es) (e :: ents)) : RelM c es ents :=
  ⟨by simpa using h.1, fun j kv e' h1 h2 => h.2 (j + 1) kv e' (by simpa using h1) (by simpa using h2)⟩
theorem RelM.head {c : Cx} {x : Value × AV} {es : List (Value × AV)} {e : MapEntry} {ents : List MapEntry} (h : RelM c (x :: es) (e :: ents)) : e.key = x.1 ∧ Rel c x.2 e.val :=
  h.2 0 x e (by simp) (by simp)

theorem find_sound {c : Cx} {d : TypeDesc} {k : Value} : ∀ {es : List (Value × AV)} {ents : List MapEntry} {r : Option AV} (i : Nat), RelM c es ents → findA d k es = some r →
    match r with
    | none => Instr.findNow d k ents i = some none
    | some a => ∃ j v, Instr.findNow d k ents i = some (some (j, v)) ∧ Rel c a v
  | [], [], r, i, _, h => by simp only [findA, Option.some.injEq] at h; subst h; rfl
  | [], _ :: _, r, i, hm, _ => by have := hm.1; simp at this
  | _ :: _, [], r, i, hm, _ => by have := hm.1; simp at this
  | x :: es, e :: ents, r, i, hm, h => by
    obtain ⟨hk, hv⟩ := hm.head
    simp only [findA] at h
    split at h
    · rename_i hs
      cases h
      exact ⟨i, e.val, by simp only [Instr.findNow, hk, hs], hv⟩
    · rename_i hs
      have ih := find_sound (i + 1) hm.tail h
      simp only [Instr.findNow, hk, hs]
      exact ih
    · cases h

theorem bytes_beq {a b : ByteArray} (h : (a == b) = true) : a = b := by
  have h' : (a.data == b.data) = true := h
  have := eq_of_beq h'
  cases a; cases b; simp_all
theorem bytes_beq_self (a : ByteArray) : (a == a) = true := by
  show (a.data == a.data) = true
  exact beq_self_eq_true _

theorem sameNow_bits {d : TypeDesc} {k k' : Value} {n : Nat} (h : Instr.sameNow d k k' = some true) : Instr.sameBits n k' k = true := by
  unfold Instr.sameNow at h
  split at h
  · split at h
    · rename_i he
      simp only [Option.some.injEq] at h
      have h' := eq_of_beq h
      subst he; subst h'
      cases n <;> simp [Instr.sameBits]
    · cases h
  · simp only [Option.some.injEq] at h
    have h' := bytes_beq h
    subst h'
    cases n <;> simp [Instr.sameBits, bytes_beq_self]
  · simp only [Option.some.injEq] at h
    have h' := eq_of_beq h
    subst h'
    cases n <;> simp [Instr.sameBits]
  · cases h

/-- where an update goes -/
theorem upd_sound {c : Cx} {d : TypeDesc} {k u : Value} {v : AV} (hv : Rel c v u) (clock : Nat) : ∀ {es : List (Value × AV)} {ents : List MapEntry} {es' : List (Value × AV)} (i : Nat), RelM c es ents → updA d k v es = some es' →
    (Instr.findNow d k ents i = some none ∧ RelM c es' (ents ++ [{ key := k, val := u, born := clock }])) ∨
    ∃ j v0 e0, Instr.findNow d k ents i = some (some (i + j, v0)) ∧ ents[j]? = some e0 ∧ Instr.sameNow d k e0.key = some true ∧ RelM c es' (ents.modify j fun e => { e with key := k, val := u })
  | [], [], es', i, hm, h => by
    simp only [updA, Option.some.injEq] at h
    subst h
    refine .inl ⟨rfl, rfl, fun j kv e h1 h2 => ?_⟩
    cases j with
    | zero => simp at h1 h2; subst h1; subst h2; exact ⟨rfl, hv⟩
    | succ j => simp at h1
  | [], _ :: _, _, i, hm, _ => by have := hm.1; simp at this
  | _ :: _, [], _, i, hm, _ => by have := hm.1; simp at this
  | x :: es, e :: ents, es', i, hm, h => by
    obtain ⟨hk, hv'⟩ := hm.head
    simp only [updA] at h
    split at h
    · rename_i hs
      cases h
      refine .inr ⟨0, e.val, e, by simp only [Instr.findNow, hk, hs, Nat.add_zero], rfl, by rw [hk]; exact hs, by simpa using hm.1, fun j kv e' h1 h2 => ?_⟩
      cases j with
      | zero => simp at h1 h2; subst h1; subst h2; exact ⟨rfl, hv⟩
      | succ j => simp at h1 h2; exact hm.2 (j + 1) kv e' (by simpa using h1) (by simpa using h2)
    · rename_i hs
      cases hr : updA d k v es with
      | none => simp [hr] at h
      | some es2 =>
        simp only [hr, Option.map_some, Option.some.injEq] at h
        subst h
        rcases upd_sound hv clock (i + 1) hm.tail hr with ⟨h1, h2⟩ | ⟨j, v0, e0, h1, h2, h3, h4⟩
        · refine .inl ⟨by simp only [Instr.findNow, hk, hs, h1], by have := h2.1; simp at this ⊢; omega, fun j kv e' h5 h6 => ?_⟩
          cases j with
          | zero => simp at h5 h6; subst h5; subst h6; exact ⟨hk, hv'⟩
          | succ j => exact h2.2 j kv e' (by simpa using h5) (by simpa using h6)
        · refine .inr ⟨j + 1, v0, e0, by simp only [Instr.findNow, hk, hs, h1]; congr 3; omega, by simpa using h2, h3, by have := h4.1; simp at this ⊢; omega, fun j' kv e' h5 h6 => ?_⟩
          cases j' with
          | zero => simp at h5 h6; subst h5; subst h6; exact ⟨hk, hv'⟩
          | succ j' => exact h4.2 j' kv e' (by simpa using h5) (by simpa using h6)
    · cases h

def aLookup (P : Program) (t : TypeId) (x k : AV) (ok : Bool) (h : AH) : Option AV :=
  match mapInfo P t with
  | some (d, e) =>
    match k with
    | .v kv =>
      match (match x with
        | .mp id => match h[id]? with
          | some (.map es) => findA d kv es
          | _ => none
        | .v (.map none) => some none
        | _ => none : Option (Option AV)) with
      | some (some a) => some (if ok then .tup [a, .v (.bool true)] else a)
      | some none => match zeroAV P e with
        | some z => some (if ok then .tup [z, .v (.bool false)] else z)
        | none => none
      | none => none
    | _ => none
  | none => none

theorem rel_tup2 {c : Cx} {a b : AV} {u v : Value} (h1 : Rel c a u) (h2 : Rel c b v) : Rel c (.tup [a, b]) (.tuple #[u, v]) := by
  refine .tup _ _ rfl ?_
  intro j x y hx hy
  cases j with
  | zero => simp at hx hy; subst hx; subst hy; exact h1
  | succ j => cases j with
    | zero => simp at hx hy; subst hx; subst hy; exact h2
    | succ j => simp at hx

theorem lookup_sound {P : Program} {c : Cx} (hst : St c) {t : TypeId} {x k r : AV} {ok : Bool} {u v : Value} (ha : aLookup P t x k ok c.h = some r) (hx : Rel c x u) (hk : Rel c k v) :
    ∃ y, (Instr.lookup t u v ok).run P c.w = .ok y c.w ∧ Rel c r y := by
  unfold aLookup at ha
  cases hm : mapInfo P t with
  | none => simp [hm] at ha
  | some de =>
    obtain ⟨d, e⟩ := de
    obtain ⟨kt, hu, hkt, hd⟩ := mapInfo_spec hm
    simp only [hm] at ha
    cases hk with
    | v v =>
      simp only at ha
      -- how the run goes on behind the entries
      have fin : ∀ (ents : List MapEntry) (q : Option AV), (match q with
            | none => Instr.findNow d v ents 0 = some none
            | some a => ∃ j y, Instr.findNow d v ents 0 = some (some (j, y)) ∧ Rel c a y) →
          (match q with
            | some a => some (if ok then .tup [a, .v (.bool true)] else a)
            | none => match zeroAV P e with
              | some z => some (if ok then .tup [z, .v (.bool false)] else z)
              | none => none) = some r →
          ∃ y, ((do
            let (w, ok') ← match ← Instr.findKey kt v ents with
              | some (_, w) => pure (w, true)
              | none => pure (← zeroValue e, false)
            pure (if ok then .tuple #[w, .bool ok'] else w) : Sem Value)).run P c.w = .ok y c.w ∧ Rel c r y := by
        intro ents q hq hr
        cases q with
        | none =>
          simp only at hq hr
          cases hz : zeroAV P e with
          | none => simp [hz] at hr
          | some z =>
            simp only [hz, Option.some.injEq] at hr
            subst hr
            obtain ⟨zv, hrun, rfl⟩ := zeroAV_run hz
            refine ⟨if ok then .tuple #[zv, .bool false] else zv, by simp [Instr.findKey, underlying, hkt, hq, hrun], ?_⟩
            cases ok
            · exact rel_ofV c zv
            · exact rel_tup2 (rel_ofV c zv) (.v _)
        | some a =>
          obtain ⟨j, y, h1, h2⟩ := hq
          simp only [Option.some.injEq] at hr
          subst hr
          refine ⟨if ok then .tuple #[y, .bool true] else y, by simp [Instr.findKey, underlying, hkt, h1], ?_⟩
          cases ok
          · exact h2
          · exact rel_tup2 h2 (.v _)
      cases hx with
      | mp id x hid ho h1 =>
        simp only at ha
        split at ha
        case h_1 a heq =>
          split at heq
          · rename_i es hb
            obtain ⟨B, hρ, rfl⟩ := h1.1 _ hb
            obtain ⟨B', ents, clock, h2, h3, h4, h5⟩ := hst.blocks id _ hb
            rw [hρ] at h2; cases h2
            have hrm : RelM c es ents.toList := ⟨by simpa using h4, fun j kv e h6 h7 => h5 j kv e h6 (by simpa using h7)⟩
            have hf := find_sound 0 hrm heq
            obtain ⟨y, h6, h7⟩ := fin ents.toList (some a) hf ha
            refine ⟨y, ?_, h7⟩
            rw [← h6]
            simp [Instr.lookup, underlying, hu, run_getObj_map h3, checkKey_run hkt hd]
            rfl
          · cases heq
        case h_2 heq =>
          split at heq
          · rename_i es hb
            obtain ⟨B, hρ, rfl⟩ := h1.1 _ hb
            obtain ⟨B', ents, clock, h2, h3, h4, h5⟩ := hst.blocks id _ hb
            rw [hρ] at h2; cases h2
            have hrm : RelM c es ents.toList := ⟨by simpa using h4, fun j kv e h6 h7 => h5 j kv e h6 (by simpa using h7)⟩
            have hf := find_sound 0 hrm heq
            obtain ⟨y, h6, h7⟩ := fin ents.toList none hf ha
            refine ⟨y, ?_, h7⟩
            rw [← h6]
            simp [Instr.lookup, underlying, hu, run_getObj_map h3, checkKey_run hkt hd]
            rfl
          · cases heq
        case h_3 heq => cases ha
      | v x =>
        cases u with
        | map o =>
          cases o with
          | none =>
            obtain ⟨y, h6, h7⟩ := fin [] none rfl ha
            refine ⟨y, ?_, h7⟩
            rw [← h6]
            simp [Instr.lookup, underlying, hu, checkKey_run hkt hd]
            rfl
          | some q => simp at ha
        | _ => simp at ha
      | _ => simp at ha
    | _ => simp at ha

end Go.Proofs.Ytplnbmldkgcedaa.Ab
