/-
  An abstract program logic, contracts of functions, and laws of terms and rules (part 2).
-/
import Derived.Test.YtniljpjjnmkoaaaGreatDoorAbOne
import Derived.Laws.BytesArg
import Derived.Laws.OwnMore
import Derived.DefersIn
import Derived.RangeFuncLeaves
import Derived.RangeFuncStops
import Derived.IntWalk
import Derived.Test.YtniljpjjnmkoaaaGreatDoorProg
import Derived.KernelRfl
set_option linter.unusedVariables false
set_option linter.unusedSimpArgs false
set_option maxHeartbeats 4000000
namespace Go.Proofs.YtniljpjjnmkoaaaGreatDoor.Ab
def Yd (P : Program) (t : TypeId) (x k v : AV) (h : AH) : Option AH :=
 match Zn P t with
 | some (d, _) =>
  match x, k with
  | .mp id, .v kv => match h[id]? with
   | some (.map es) => match updA d kv v es with
    | some es' => some (h.set id (.map es'))
    | none => none
   | _ => none
  | _, _ => none
 | none => none
theorem run_setObj_map {P : Program} {w : World} {r : Nat} {es : Array MapEntry} {k : Nat} {o : Obj} (h : w.heap[r]? = some (.map es k)) : (setObj r o).run P w = .ok () { w with heap := w.heap.setIfInBounds r o } := by
 simp [setObj, Sem.run, h]
theorem Qak {P : Program} {c : Cx} (hst : St c) {t : TypeId} {x k v : AV} {h' : AH} {ux uk uv : Value} (ha : Yd P t x k v c.h = some h') (hx : Rel c x ux) (hk : Rel c k uk) (hv : Rel c v uv) :
  ∃ c', (Instr.mapUpdate t ux uk uv).run P c.w = .ok () c'.w ∧ Ev c c' ∧ St c' ∧ c'.h = h' := by
 unfold Yd at ha
 cases hm : Zn P t with
 | none => simp [hm] at ha
 | some de =>
  obtain ⟨d, e⟩ := de
  obtain ⟨kt, hu, hkt, hd⟩ := Qcv hm
  simp only [hm] at ha
  split at ha
  ·rename_i id kv
   cases hk
   split at ha
   ·rename_i es hb
    split at ha
    ·rename_i es' hup
     cases ha
     cases hx with
     | mp _ x hid ho h1 =>
      obtain ⟨B, hρ, rfl⟩ := h1.1 _ hb
      obtain ⟨B', ents, clock, h2, h3, h4, h5⟩ := hst.blocks id _ hb
      rw [hρ] at h2; cases h2
      have hlt : B < c.w.heap.size := (Array.getElem?_eq_some_iff.1 h3).1
      have hrm : RelM c es ents.toList := ⟨by simpa using h4, fun j kv e h6 h7 => h5 j kv e h6 (by simpa using h7)⟩
      -- whatever the new entries are
      have fin : ∀ (ents' : Array MapEntry) (clock' : Nat), RelM c es' ents'.toList → ∃ c', ({ c.w with heap := c.w.heap.setIfInBounds B (.map ents' clock') } : World) = c'.w ∧ Ev c c' ∧ St c' ∧ c'.h = c.h.set id (.map es') := by
       intro ents' clock' hr'
       let w' : World := { c.w with heap := c.w.heap.setIfInBounds B (.map ents' clock') }
       have hold : ∀ k, k ≠ B → w'.heap[k]? = c.w.heap[k]? := fun k hk => by simp only [w']; rw [Array.getElem?_setIfInBounds_ne (fun e => hk e.symm)]
       have hnew : w'.heap[B]? = some (.map ents' clock') := by simp only [w']; rw [Array.getElem?_setIfInBounds_self_of_lt hlt]
       have hev : Ev c (c.turn w' id (.map es')) := Ev.turn hst hb rfl hρ rfl rfl rfl (by simp [w']) hold ⟨_, rfl, rfl⟩
       refine ⟨c.turn w' id (.map es'), rfl, hev, St.turn hst hb rfl hρ hold hev ?_, rfl⟩
       refine ⟨B, ents', clock', hρ, hnew, by simpa using hr'.1, fun j kv e h6 h7 => ?_⟩
       obtain ⟨h8, h9⟩ := hr'.2 j kv e h6 (by simpa using h7)
       exact ⟨h8, h9.ev hst hev⟩
      rcases QfV hv clock 0 hrm hup with ⟨hf, hr⟩ | ⟨j, v0, e0, hf, he0, hs, hr⟩
      ·obtain ⟨c', h6, h7⟩ := fin (ents.push { key := uk, val := uv, born := clock }) (clock + 1) (by simpa using hr)
       refine ⟨c', ?_, h7⟩
       rw [← h6]
       simp [Instr.mapUpdate, underlying, hu, run_getObj_map h3, YH hkt hd, Instr.findKey, hkt, hf, run_setObj_map h3]
      ·obtain ⟨c', h6, h7⟩ := fin (ents.modify j fun e => { e with key := uk, val := uv }) clock (by simpa using hr)
       refine ⟨c', ?_, h7⟩
       rw [← h6]
       have he0' : ents[j]? = some e0 := by simpa using he0
       have hbits : Instr.sameBits 10000 e0.key uk = true := QgV hs
       rw [Nat.zero_add] at hf
       simp [Instr.mapUpdate, underlying, hu, run_getObj_map h3, YH hkt hd, Instr.findKey, hkt, hf, he0', Instr.keyThatStays, hbits, run_setObj_map h3]
    ·cases ha
   ·cases ha
  ·cases ha
theorem Qbp {P : Program} {c : Cx} (hst : St c) (t : TypeId) (r : Option Value) (hr : ∀ v, r = some v → (∃ k e, P.underlying t = some (.map k e)) ∧ ∃ q n, v = .int q n) :
  ∃ c', (Instr.makeMap t r).run P c.w = .ok (.map (some c.w.heap.size)) c'.w ∧ Ev c c' ∧ St c' ∧ c'.h = c.h ++ [.map []] ∧ Rel c' (.mp c.h.length) (.map (some c.w.heap.size)) := by
 have hg : Grows c.w (c.w.alloc (.map #[] 0)) := Grows.alloc _ _
 have ho : ∀ B, some c.w.heap.size = some B → c.w.heap.size ≤ B := fun B h => by cases h; exact Nat.le_refl _
 have hev := Ev.add hst hg (.map []) (some c.w.heap.size) ho
 have hρ : (c.add (c.w.alloc (.map #[] 0)) (.map []) (some c.w.heap.size)).ρ c.h.length = some c.w.heap.size := by simp [Cx.add]
 refine ⟨c.add (c.w.alloc (.map #[] 0)) (.map []) (some c.w.heap.size), ?_, hev, St.add hst hg _ _ ho ?_, rfl, .mp _ _ (by simp [Cx.add]) rfl ⟨fun es _ => ⟨_, hρ, rfl⟩, fun i hi => by simp [Cx.add] at hi, fun s p hi => by simp [Cx.add] at hi⟩⟩
 ·cases r with
  | none => rfl
  | some v =>
   obtain ⟨⟨k, e, hu⟩, q, n, rfl⟩ := hr v rfl
   simp [Instr.makeMap, underlying, hu, asInt, asIntOf, Cx.add]
 ·exact ⟨_, #[], 0, hρ, QZ _ _, rfl, fun j kv e h => by simp at h⟩
theorem Z3 {P : Program} {w : World} {r : Nat} {s : ByteArray} {p : Nat} (h : w.heap[r]? = some (.stringIter s p)) : (getObj r).run P w = .ok (.stringIter s p) w := by
 simp [getObj, Sem.run, h]
theorem QcQ {P : Program} {w : World} {r : Nat} {s : ByteArray} {p : Nat} {o : Obj} (h : w.heap[r]? = some (.stringIter s p)) : (setObj r o).run P w = .ok () { w with heap := w.heap.setIfInBounds r o } := by
 simp [setObj, Sem.run, h]
theorem Qhp {P : Program} {c : Cx} (hst : St c) {t : TypeId} (ht : P.underlying t = some .string) (s : ByteArray) :
  ∃ c', (Instr.range t (.string s)).run P c.w = .ok (.pointer (some ⟨c.w.heap.size, 0, none⟩)) c'.w ∧ Ev c c' ∧ St c' ∧ c'.h = c.h ++ [.iter s 0] ∧ Rel c' (.mp c.h.length) (.pointer (some ⟨c.w.heap.size, 0, none⟩)) := by
 have hg : Grows c.w (c.w.alloc (.stringIter s 0)) := Grows.alloc _ _
 have ho : ∀ B, some c.w.heap.size = some B → c.w.heap.size ≤ B := fun B h => by cases h; exact Nat.le_refl _
 have hev := Ev.add hst hg (.iter s 0) (some c.w.heap.size) ho
 have hρ : (c.add (c.w.alloc (.stringIter s 0)) (.iter s 0) (some c.w.heap.size)).ρ c.h.length = some c.w.heap.size := by simp [Cx.add]
 refine ⟨c.add (c.w.alloc (.stringIter s 0)) (.iter s 0) (some c.w.heap.size), ?_, hev, St.add hst hg _ _ ho ?_, rfl, .mp _ _ (by simp [Cx.add]) rfl ⟨fun es hi => by simp [Cx.add] at hi, fun i hi => by simp [Cx.add] at hi, fun s' p' _ => ⟨_, hρ, rfl⟩⟩⟩
 ·simp [Instr.range, underlying, ht, Cx.add]
 ·exact ⟨_, hρ, QZ _ _⟩
def QgF (x : AV) (h : AH) : Option (AV × AH) :=
 match x with
 | .mp id => match h[id]? with
  | some (.iter s p) => if p < s.size then some (.tup [.v (.bool true), .v (goInt p), .v (.int .i32 (Utf8.decode s p).1)], h.set id (.iter s (p + (Utf8.decode s p).2))) else some (.tup [.v (.bool false)], h)
  | _ => none
 | _ => none
theorem Qmr {c : Cx} {a : AV} {u : Value} (h1 : Rel c a u) : Rel c (.tup [a]) (.tuple #[u]) := by
 refine .tup _ _ rfl fun j x y hx hy => ?_
 match j, hx, hy with
 | 0, hx, hy => simp at hx hy; subst hx; subst hy; exact h1
 | j + 1, hx, hy => simp at hx
theorem Qmg {c : Cx} {a b d : AV} {u v z : Value} (h1 : Rel c a u) (h2 : Rel c b v) (h3 : Rel c d z) : Rel c (.tup [a, b, d]) (.tuple #[u, v, z]) := by
 refine .tup _ _ rfl fun j x y hx hy => ?_
 match j, hx, hy with
 | 0, hx, hy => simp at hx hy; subst hx; subst hy; exact h1
 | 1, hx, hy => simp at hx hy; subst hx; subst hy; exact h2
 | 2, hx, hy => simp at hx hy; subst hx; subst hy; exact h3
 | j + 3, hx, hy => simp at hx
theorem Qjz {P : Program} {c : Cx} (hst : St c) {x r : AV} {h' : AH} {u : Value} (ha : QgF x c.h = some (r, h')) (hx : Rel c x u) (ty : TypeId) :
  ∃ y c', (Instr.next u true ty).run P c.w = .ok y c'.w ∧ Ev c c' ∧ St c' ∧ c'.h = h' ∧ Rel c' r y := by
 unfold QgF at ha
 split at ha
 ·rename_i id
  split at ha
  ·rename_i s p hb
   cases hx with
   | mp _ x hid ho h1 =>
    obtain ⟨B, hρ, rfl⟩ := h1.2.2 _ _ hb
    obtain ⟨B', h2, h3⟩ := hst.blocks id _ hb
    rw [hρ] at h2; cases h2
    have hlt : B < c.w.heap.size := (Array.getElem?_eq_some_iff.1 h3).1
    split at ha
    ·rename_i hp
     cases ha
     let w' : World := { c.w with heap := c.w.heap.setIfInBounds B (.stringIter s (p + (Utf8.decode s p).2)) }
     have hold : ∀ k, k ≠ B → w'.heap[k]? = c.w.heap[k]? := fun k hk => by simp only [w']; rw [Array.getElem?_setIfInBounds_ne (fun e => hk e.symm)]
     have hnew : w'.heap[B]? = some (.stringIter s (p + (Utf8.decode s p).2)) := by simp only [w']; rw [Array.getElem?_setIfInBounds_self_of_lt hlt]
     have hev : Ev c (c.turn w' id (.iter s (p + (Utf8.decode s p).2))) := Ev.turn hst hb rfl hρ rfl rfl rfl (by simp [w']) hold ⟨_, rfl, rfl⟩
     refine ⟨_, c.turn w' id (.iter s (p + (Utf8.decode s p).2)), ?_, hev, St.turn hst hb rfl hρ hold hev ⟨B, hρ, hnew⟩, rfl, Qmg (.v _) (.v _) (.v _)⟩
     simp [Instr.next, Z3 h3, hp, QcQ h3, Cx.turn, w']
    ·rename_i hp
     cases ha
     refine ⟨_, c, ?_, Ev.refl c, hst, rfl, Qmr (.v _)⟩
     simp [Instr.next, Z3 h3, hp]
  ·cases ha
 ·cases ha
def intsOf : List AV → Option (List Int)
 | [] => some []
 | .v (.int .u8 n) :: l => (intsOf l).map (n :: ·)
 | _ => none
theorem Qgq : ∀ {l : List AV} {ns : List Int}, intsOf l = some ns → l = ns.map fun n => .v (.int .u8 n)
 | [], ns, h => by simp only [intsOf, QpS] at h; subst h; rfl
 | a :: l, ns, h => by
  unfold intsOf at h
  split at h
  ·rename_i h0; cases h0
  ·rename_i n l' h0
   cases h0
   simp only [Option.map_eq_some_iff] at h
   obtain ⟨ms, h1, rfl⟩ := h
   rw [Qgq h1]; rfl
  ·cases h
def QjN (P : Program) (s d : TypeId) : Bool := match P.underlying s, P.underlying d with
 | some (.slice e), some .string => (match P.underlying e with | some (.int .u8) => true | _ => false)
 | _, _ => false
def QeN (P : Program) (s d : TypeId) (x : AV) (h : AH) : Option AV := match QjN P s d, XS 1 h x with
 | true, some ys => (intsOf ys).map fun ns => .v (.string (strOfNums ns))
 | _, _ => none
theorem Qhs {P : Program} {c : Cx} (hst : St c) {s d : TypeId} {x r : AV} {u : Value} (ha : QeN P s d x c.h = some r) (hx : Rel c x u) : ∃ y, (convert s d u).run P c.w = .ok y c.w ∧ Rel c r y := by
 unfold QeN at ha
 split at ha
 ·rename_i ys hb hys
  simp only [Option.map_eq_some_iff] at ha
  obtain ⟨ns, hns, rfl⟩ := ha
  have hyl := Qgq hns
  unfold QjN at hb
  split at hb
  ·rename_i e hs hd
   split at hb
   ·rename_i he
    obtain ⟨_, h1 | ⟨B, o, cap, rfl, hrow, _, _⟩⟩ := QdA hst hys hx
    ·obtain ⟨hu, hnil⟩ := h1
     have hn0 : ns = [] := by rw [hnil] at hns; simpa [intsOf] using hns.symm
     subst hn0
     rcases hu with rfl | ⟨ad, rfl⟩
     ·exact ⟨_, run_convert_bytes_nil c.w s e hs he 0 0 d hd, .v _⟩
     ·refine ⟨.string (strOfNums []), ?_, .v _⟩
      rw [run_convert_bytes_string c.w s d e _ 0 0 hs he hd, run_bytesToString c.w ad 0 0 [] (by rfl)]
      rfl
    ·have hlen : ys.length = ns.length := by rw [hyl, List.length_map]
     have hfl : flat ys = ns.map fun n => AV.v (.int .u8 n) := by
      rw [hyl]
      clear hyl hns hys hrow hx hlen
      induction ns with
      | nil => rfl
      | cons n ns ih => simp only [Qp1, Xs, ih]; rfl
     refine ⟨_, run_convert_bytes_arg c.w s e hs he B o ys.length cap ns hlen.symm (fun i hi => ?_) d hd, .v _⟩
     have hin : i < ns.length := by omega
     obtain ⟨v, h1, _, h3⟩ := hrow i (.v (.int .u8 ns[i])) (by rw [hfl, List.getElem?_map, List.getElem?_eq_getElem hin]; rfl)
     cases h3
     rw [h1, List.getD_eq_getElem?_getD, List.getElem?_eq_getElem hin]; rfl
   ·cases hb
  ·cases hb
 ·cases ha
def QeA (P : Program) (t : TypeId) (l c : AV) (h : AH) : Option (AV × AH) :=
 match l, c with
 | .v (.int _ m), .v (.int _ n) => match Q5 P t with
  | some (e, k) => match P.info? e with
   | some i => match i.zero with
    | some z => if 0 < m ∧ m = n ∧ (i.bytes : Int) * n ≤ 281474976710656 ∧ n ≤ maxLen ∧ i.size = 1 ∧ k = 1 ∧ z.oneCell' = true then some (.arr h.length 0 m.toNat, h ++ [.cells e 1 (List.replicate m.toNat (.v z))]) else none
    | none => none
   | none => none
  | none => none
 | _, _ => none
theorem Qk4 {z : Value} (h : z.oneCell' = true) : z.cells = #[z] := by
 cases z <;> first | rfl | cases h
theorem QaZ (z : Value) : ∀ n : Nat, flat (List.replicate n (AV.v z)) = List.replicate n (AV.v z)
 | 0 => rfl
 | n + 1 => by rw [List.replicate_succ, Xs, QaZ z n]; rfl
theorem Qhm {P : Program} {c : Cx} (hst : St c) {t : TypeId} {l n r : AV} {h' : AH} {ul un : Value} (ha : QeA P t l n c.h = some (r, h')) (hl : Rel c l ul) (hn : Rel c n un) :
  ∃ y c', (Instr.makeSlice t ul un).run P c.w = .ok y c'.w ∧ Ev c c' ∧ St c' ∧ c'.h = h' ∧ Rel c' r y := by
 unfold QeA at ha
 split at ha
 ·rename_i q1 m q2 n
  cases hl; cases hn
  split at ha
  ·rename_i e k he
   obtain ⟨hu, hsz⟩ := XD he
   split at ha
   ·rename_i i hi
    split at ha
    ·rename_i z hz
     split at ha
     ·rename_i hh
      obtain ⟨h0, rfl, hb, hm, h1, rfl, hz1⟩ := hh
      cases ha
      have h63 : m ≤ 9223372036854775807 := by simp only [maxLen] at hm; omega
      have hrun := run_make (P := P) c.w t e i z hu hi hz q1 q2 m m (by omega) (Int.le_refl _) hb h63
      rw [h1, Nat.mul_one, Qk4 hz1] at hrun
      have hg : Grows c.w (c.w.alloc (.cells (madeCells #[z] m.toNat) e)) := Grows.alloc _ _
      have ho : ∀ B, some c.w.heap.size = some B → c.w.heap.size ≤ B := fun B h => by cases h; exact Nat.le_refl _
      have hev := Ev.add hst hg (.cells e 1 (List.replicate m.toNat (.v z))) (some c.w.heap.size) ho
      have hρ : (c.add (c.w.alloc (.cells (madeCells #[z] m.toNat) e)) (.cells e 1 (List.replicate m.toNat (.v z))) (some c.w.heap.size)).ρ c.h.length = some c.w.heap.size := by simp [Cx.add]
      have hheap : (c.w.alloc (.cells (madeCells #[z] m.toNat) e)).heap[c.w.heap.size]? = some (.cells (madeCells #[z] m.toNat) e (0, 0)) := QZ c.w _
      have hst' := St.add hst hg (.cells e 1 (List.replicate m.toNat (.v z))) (some c.w.heap.size) ho ⟨_, _, hρ, hheap, fun x hx => by rw [List.eq_of_mem_replicate hx]; rfl, fun j a ha => by
       rw [QaZ] at ha
       have hlt := QF ha
       rw [List.length_replicate] at hlt
       have e1 : a = .v z := List.eq_of_mem_replicate (List.mem_of_getElem? ha)
       subst e1
       refine ⟨z, ?_, hz1, .v z⟩
       rw [← Array.getElem?_toList, toList_madeCells_one, List.getElem?_replicate, if_pos hlt]⟩
      refine ⟨_, _, hrun, hev, hst', rfl, .arr _ _ _ _ (by simp [Cx.add]) rfl fun ty s xs hg2 => ?_⟩
      simp [Cx.add] at hg2
      obtain ⟨rfl, rfl, rfl⟩ := hg2
      refine ⟨_, m.toNat, hρ, by simp, Nat.le_refl _, by simp only [maxLen] at hm ⊢; omega, _, hheap, by rw [size_madeCells]; omega⟩
     ·cases ha
    ·cases ha
   ·cases ha
  ·cases ha
 ·cases ha
def Qhn (P : Program) (t : TypeId) : Bool := match P.underlying t with | some (.map _ _) => true | _ => false
def aop (P : Program) (ev : Operand → AV) (ty : TypeId) (h : AH) : Op → Option (AV × AH)
 | .move x | .assign x => some (ev x, h)
 | .pick c a b => match ev c with
  | .v (.bool t) => some (if t then ev a else ev b, h)
  | _ => none
 | .alloc t => match Xy P t with
  | some z => if z.QoY = true then some (.ptr h.length 0 0, h ++ [.cells t z.cells.length [z]]) else none
  | none => none
 | .box t x => if (ev x).QoY = true then some (.ptr h.length 0 0, h ++ [.cells t (ev x).cells.length [ev x]]) else none
 | .build t parts => (XA P t (parts.toList.map fun p => (p.1, ev p.2))).map (·, h)
 | .buildSlice t len parts => QM P t len (parts.toList.map fun p => (p.1, ev p.2)) h
 | .load t a => (QA P t (ev a) h).map (·, h)
 | .store t a x => (QO P t (ev a) (ev x) h).map (.v undef, ·)
 | .binOp op t x y _ => (aBin P op t x y (ev x) (ev y) h).map (·, h)
 | .unOp op _ x => match ev x with
  | .v a => (pv P (Op.unary op a)).map (.v ·, h)
  | _ => none
 | .convert s d x => match ev x with
  | .v a => (pv P (convert s d a)).map (.v ·, h)
  | .ptr id k off => (Zm P s d id k off h).map (·, h)
  | y => (QeN P s d y h).map (·, h)
 | .makeFunc f a b => some (.fn f (a.toList.map ev) (b.toList.map ev), h)
 | .makeInterface t x => match P.underlying t with
  | some (.interface _) => none
  | some _ => some (.ifc t (ev x), h)
  | none => none
 | .makeMap t r => match r.map ev with
  | none => some (.mp h.length, h ++ [.map []])
  | some (.v (.int _ _)) => if Qhn P t then some (.mp h.length, h ++ [.map []]) else none
  | _ => none
 | .makeSlice t l c => match Qga P t (ev l) (ev c) h with
  | some x => some x
  | none => QeA P t (ev l) (ev c) h
 | .slice t x lo hi mx => match mx with
  | none => (Z6 P t (ev x) (lo.map ev) (hi.map ev) h).map (·, h)
  | some m => QfH P t (ev x) (lo.map ev) (hi.map ev) (some (ev m)) h
 | .fieldAddr t x i => (Qm P t (ev x) i h).map (·, h)
 | .field t x i => (Qid P t (ev x) i).map (·, h)
 | .indexAddr t x i => (Qt P t (ev x) (ev i) h).map (·, h)
 | .index t x i => match ev x, ev i with
  | .v a, .v b => (pv P (Instr.index t a b)).map (.v ·, h)
  | _, _ => none
 | .lookup t x k ok => (Yf P t (ev x) (ev k) ok h).map (·, h)
 | .mapUpdate t m k x => (Yd P t (ev m) (ev k) (ev x) h).map (.v undef, ·)
 | .insert t m k x => (Yd P t (ev m) (ev k) (ev x) h).map (.v undef, ·)
 | .extract t i => (Xo (ev t) i).map (·, h)
 | .nilCheck x => if QS h (ev x) = true then some (ev x, h) else none
 | .typeAssert x xt t ok => (QhB P (ev x) xt t ok).map (·, h)
 | .range t x => match P.underlying t, ev x with
  | some .string, .v (.string s) => some (.mp h.length, h ++ [.iter s 0])
  | _, _ => none
 | .next it true => QgF (ev it) h
 | .call c => match c.callee with
  | .builtin .len => match c.args.toList, c.argTypes.toList with
   | [x], [t] => (aLen P t ty (ev x) h).map (·, h)
   | _, _ => none
  | .builtin .append => match c.args.toList, c.argTypes.toList with
   | [x, y], [t, u] => Xr P t u (ev x) (ev y) h
   | _, _ => none
  | .builtin .cap => match c.args.toList, c.argTypes.toList with
   | [x], [t] => (aCap P t ty (ev x) h).map (·, h)
   | _, _ => none
  | .builtin .unsafeSliceData => match c.args.toList with
   | [x] => (Qau (ev x)).map (·, h)
   | _ => none
  | .builtin .unsafeString => match c.args.toList, c.argTypes.toList with
   | [x, y], [t, _] => Yt P t (ev x) (ev y) h
   | _, _ => none
  | .builtin .copy => match c.args.toList, c.argTypes.toList with
   | [x, y], [t, _] => Qm2 P t (ev x) (ev y) h
   | _, _ => none
  | .builtin .clear => match c.args.toList, c.argTypes.toList with
   | [x], [t] => Qev P t (ev x) h
   | _, _ => none
  | .builtin .min => match c.args.toList.map ev with
   | [.v a, .v b] => (pv P (Builtin.min_ c.argTypes ty #[a, b])).map (.v ·, h)
   | _ => none
  | .builtin .max => match c.args.toList.map ev with
   | [.v a, .v b] => (pv P (Builtin.max_ c.argTypes ty #[a, b])).map (.v ·, h)
   | _ => none
  | _ => none
 | _ => none
def Yq (P : Program) (o : Oper) (ρ : Operand → Value) (c : Cx) (r : AV) (h' : AH) : Prop :=
 ∃ c', Ev c c' ∧ St c' ∧ c'.h = h' ∧ ((∃ x, (execOp ρ o).run P c.w = .ok (.value x) c'.w ∧ Rel c' r x) ∨ ((execOp ρ o).run P c.w = .ok .skip c'.w ∧ Rel c' r undef))
theorem Yq.pure {P : Program} {o : Oper} {ρ : Operand → Value} {c : Cx} (hst : St c) {r : AV} {x : Value} (hrun : (execOp ρ o).run P c.w = .ok (.value x) c.w) (hr : Rel c r x) : Yq P o ρ c r c.h :=
 ⟨c, Ev.refl c, hst, rfl, .inl ⟨x, hrun, hr⟩⟩
theorem QbY {c : Cx} {ev : Operand → AV} {ρ : Operand → Value} (hev : ∀ x, Rel c (ev x) (ρ x)) (parts : Array (Nat × Operand)) :
  (parts.toList.map fun p => (p.1, ev p.2)).map (·.1) = (parts.map fun (i, x) => (i, ρ x)).toList.map (·.1) ∧
  RelL c ((parts.toList.map fun p => (p.1, ev p.2)).map (·.2)) ((parts.map fun (i, x) => (i, ρ x)).toList.map (·.2)).toArray := by
 refine ⟨by simp, by simp, fun j a u ha hu => ?_⟩
 simp only [List.map_map, List.getElem?_map, Option.map_eq_some_iff, Array.getElem?_toList] at ha
 obtain ⟨p, hp, rfl⟩ := ha
 simp [hp] at hu
 subst hu
 exact hev p.2
theorem Qfj {c : Cx} {ev : Operand → AV} {ρ : Operand → Value} (hev : ∀ x, Rel c (ev x) (ρ x)) (xs : Array Operand) : RelL c (xs.toList.map ev) (xs.map ρ) := by
 refine ⟨by simp, fun j a u ha hu => ?_⟩
 simp only [List.getElem?_map, Option.map_eq_some_iff, Array.getElem?_toList] at ha
 obtain ⟨p, hp, rfl⟩ := ha
 simp [hp] at hu
 subst hu
 exact hev p
theorem Qbm {c : Cx} {ev : Operand → AV} {ρ : Operand → Value} (hev : ∀ x, Rel c (ev x) (ρ x)) (x : Option Operand) : RelO c (x.map ev) (x.map ρ) := by
 cases x with
 | none => trivial
 | some x => exact hev x
theorem YD {α : Type} {a : Array α} {x y : α} (h : a.toList = [x, y]) : a = #[x, y] := by
 apply Array.ext'; simpa using h
theorem ZC {α : Type} {a : Array α} {x : α} (h : a.toList = [x]) : a = #[x] := by
 apply Array.ext'; simpa using h
theorem Qj3 {P : Program} {o : Oper} {c : Cx} (hst : St c) {ev : Operand → AV} {ρ : Operand → Value} (hev : ∀ x, Rel c (ev x) (ρ x)) {r : AV} {h' : AH} (ha : aop P ev o.type c.h o.op = some (r, h')) : Yq P o ρ c r h' := by
 have val : ∀ {x : Value} {s : Sem Value}, execOp ρ o = (do pure (.value (← s))) → s.run P c.w = .ok x c.w → (execOp ρ o).run P c.w = .ok (.value x) c.w := by
  intro x s h1 h2; rw [h1]; simp [h2]
 have val' : ∀ {x : Value} {s : Sem Value} {w : World}, execOp ρ o = (do pure (.value (← s))) → s.run P c.w = .ok x w → (execOp ρ o).run P c.w = .ok (.value x) w := by
  intro x s w h1 h2; rw [h1]; simp [h2]
 have unit' : ∀ {s : Sem Unit} {w : World}, execOp ρ o = (do s; pure .skip) → s.run P c.w = .ok () w → (execOp ρ o).run P c.w = .ok .skip w := by
  intro s w h1 h2; rw [h1]; simp [h2]
 cases hop : o.op with
 | move x => simp only [aop, hop] at ha; cases ha; exact Yq.pure hst (x := ρ x) (by simp [execOp, hop]) (hev x)
 | assign x => simp only [aop, hop] at ha; cases ha; exact Yq.pure hst (x := ρ x) (by simp [execOp, hop]) (hev x)
 | pick q a b =>
  simp only [aop, hop] at ha
  split at ha
  ·rename_i t hq
   cases ha
   have h1 := hev q
   rw [hq] at h1
   generalize hu : ρ q = u at h1
   cases h1
   refine Yq.pure hst (x := if t then ρ a else ρ b) (by simp [execOp, hop, hu, asBool]) ?_
   cases t
   ·exact hev b
   ·exact hev a
  ·cases ha
 | alloc t =>
  simp only [aop, hop] at ha
  split at ha
  ·rename_i z hz
   split at ha
   ·rename_i h1
    cases ha
    obtain ⟨c', hrun, h2, h3, h4, h5⟩ := QhT (P := P) hst hz h1
    exact ⟨c', h2, h3, h4, .inl ⟨_, val' (by simp [execOp, hop]) hrun, h5⟩⟩
   ·cases ha
  ·cases ha
 | box t x =>
  simp only [aop, hop] at ha
  split at ha
  ·rename_i h1
   cases ha
   obtain ⟨c', hrun, h2, h3, h4, h5⟩ := Qf6 (P := P) (ty := t) hst (hev x) h1
   exact ⟨c', h2, h3, h4, .inl ⟨_, val' (by simp [execOp, hop]) hrun, h5⟩⟩
  ·cases ha
 | build t parts =>
  simp only [aop, hop, Option.map_eq_some_iff] at ha
  obtain ⟨a, ha, he⟩ := ha
  cases he
  obtain ⟨h1, h2⟩ := QbY hev parts
  obtain ⟨y, hrun, hr⟩ := QhX ha h1 h2
  exact Yq.pure hst (val (by simp [execOp, hop]) hrun) hr
 | buildSlice t len parts =>
  simp only [aop, hop] at ha
  obtain ⟨h1, h2⟩ := QbY hev parts
  obtain ⟨y, c', hrun, h3, h4, h5, h6⟩ := Qcy hst ha h1 h2
  exact ⟨c', h3, h4, h5, .inl ⟨_, val' (by simp [execOp, hop]) hrun, h6⟩⟩
 | load t a =>
  simp only [aop, hop, Option.map_eq_some_iff] at ha
  obtain ⟨x, ha, he⟩ := ha
  cases he
  obtain ⟨y, hrun, hr⟩ := Qda hst ha (hev a)
  exact Yq.pure hst (val (by simp [execOp, hop]) hrun) hr
 | store t a x =>
  simp only [aop, hop, Option.map_eq_some_iff] at ha
  obtain ⟨h2, ha, he⟩ := ha
  cases he
  obtain ⟨c', hrun, h3, h4, h5⟩ := QgG hst ha (hev a) (hev x)
  exact ⟨c', h3, h4, h5, .inr ⟨unit' (by simp [execOp, hop]) hrun, .v _⟩⟩
 | binOp op t x y yt =>
  simp only [aop, hop, Option.map_eq_some_iff] at ha
  obtain ⟨a, ha, he⟩ := ha
  cases he
  obtain ⟨z, hrun, hr⟩ := Qkc hst ha (hev x) (hev y)
  exact Yq.pure hst (val (by simp [execOp, hop]) hrun) hr
 | nilCheck x =>
  simp only [aop, hop] at ha
  split at ha
  ·rename_i hn
   cases ha
   obtain ⟨a, hu⟩ := Qfy hn (hev x)
   exact Yq.pure hst (x := ρ x) (by simp [execOp, hop, hu]) (hev x)
  ·cases ha
 | typeAssert x xt t ok =>
  simp only [aop, hop, Option.map_eq_some_iff] at ha
  obtain ⟨y, ha, he⟩ := ha
  cases he
  obtain ⟨z, hrun, hr⟩ := Qhg (P := P) (c := c) (xt := xt) ha (hev x)
  exact Yq.pure hst (val (by simp [execOp, hop]) hrun) hr
 | range t x =>
  simp only [aop, hop] at ha
  split at ha
  ·rename_i s ht hx
   cases ha
   have h1 := hev x
   rw [hx] at h1
   generalize hu : ρ x = u at h1
   cases h1
   obtain ⟨c', hrun, h3, h4, h5, h6⟩ := Qhp (P := P) hst ht s
   exact ⟨c', h3, h4, h5, .inl ⟨_, val' (by simp [execOp, hop, hu]) hrun, h6⟩⟩
  ·cases ha
 | next it b =>
  cases b with
  | false => simp [aop, hop] at ha
  | true =>
   simp only [aop, hop] at ha
   obtain ⟨y, c', hrun, h3, h4, h5, h6⟩ := Qjz (P := P) hst ha (hev it) o.type
   exact ⟨c', h3, h4, h5, .inl ⟨_, val' (by simp [execOp, hop]) hrun, h6⟩⟩
 | unOp op t x =>
  simp only [aop, hop] at ha
  split at ha
  ·rename_i a hx
   simp only [Option.map_eq_some_iff] at ha
   obtain ⟨y, ha, he⟩ := ha
   cases he
   have h1 := hev x
   rw [hx] at h1
   generalize hu : ρ x = u at h1
   cases h1
   exact Yq.pure hst (val (by simp [execOp, hop, hu]) (Zv ha _)) (.v _)
  ·cases ha
 | convert s d x =>
  simp only [aop, hop] at ha
  split at ha
  ·rename_i a hx
   simp only [Option.map_eq_some_iff] at ha
   obtain ⟨y, ha, he⟩ := ha
   cases he
   have h1 := hev x
   rw [hx] at h1
   generalize hu : ρ x = u at h1
   cases h1
   exact Yq.pure hst (val (by simp [execOp, hop, hu]) (Zv ha _)) (.v _)
  ·rename_i id k off hx
   simp only [Option.map_eq_some_iff] at ha
   obtain ⟨y, ha, he⟩ := ha
   cases he
   have h1 := hev x
   rw [hx] at h1
   obtain ⟨z, hrun, hr⟩ := Qgu (P := P) hst ha h1
   exact Yq.pure hst (val (by simp [execOp, hop]) hrun) hr
  ·simp only [Option.map_eq_some_iff] at ha
   obtain ⟨y, ha, he⟩ := ha
   cases he
   obtain ⟨z, hrun, hr⟩ := Qhs (P := P) hst ha (hev x)
   exact Yq.pure hst (val (by simp [execOp, hop]) hrun) hr
 | makeFunc f a b =>
  simp only [aop, hop] at ha
  cases ha
  have h1 := Qfj hev a
  have h2 := Qfj hev b
  exact Yq.pure hst (x := .func f (a.map ρ) (b.map ρ)) (by simp [execOp, hop, Instr.makeFunc]) (.fn f _ _ _ _ h1.1 h2.1 h1.2 h2.2)
 | makeInterface t x =>
  simp only [aop, hop] at ha
  split at ha
  ·cases ha
  ·rename_i d hd hu
   cases ha
   refine Yq.pure hst (x := .iface t (ρ x)) (val (s := Instr.makeInterface t (ρ x)) (by simp [execOp, hop]) ?_) (.ifc t _ _ (hev x))
   cases d <;> first | (exact (hd _ rfl).elim) | simp [Instr.makeInterface, underlying, hu]
  ·cases ha
 | makeMap t r =>
  simp only [aop, hop] at ha
  split at ha
  ·rename_i hr
   cases ha
   cases r with
   | none =>
    obtain ⟨c', hrun, h2, h3, h4, h5⟩ := Qbp (P := P) hst t none (fun v h => by cases h)
    exact ⟨c', h2, h3, h4, .inl ⟨_, val' (by simp [execOp, hop]) hrun, h5⟩⟩
   | some x => simp at hr
  ·rename_i q n hr
   split at ha
   ·rename_i hm
    cases ha
    cases r with
    | none => simp at hr
    | some x =>
     simp only [QpO, QpS] at hr
     have h1 := hev x
     rw [hr] at h1
     generalize hu : ρ x = u at h1
     cases h1
     obtain ⟨c', hrun, h2, h3, h4, h5⟩ := Qbp (P := P) hst t (some (.int q n)) (fun v h => by
      cases h
      refine ⟨?_, q, n, rfl⟩
      unfold Qhn at hm
      split at hm
      ·rename_i k e hu'; exact ⟨k, e, hu'⟩
      ·cases hm)
     exact ⟨c', h2, h3, h4, .inl ⟨_, val' (by simp [execOp, hop, hu]) hrun, h5⟩⟩
   ·cases ha
  ·cases ha
 | makeSlice t l n =>
  simp only [aop, hop] at ha
  split at ha
  ·rename_i x hm
   cases ha
   obtain ⟨y, c', hrun, h2, h3, h4, h5⟩ := QjG hst hm (hev l) (hev n)
   exact ⟨c', h2, h3, h4, .inl ⟨_, val' (by simp [execOp, hop]) hrun, h5⟩⟩
  ·obtain ⟨y, c', hrun, h2, h3, h4, h5⟩ := Qhm hst ha (hev l) (hev n)
   exact ⟨c', h2, h3, h4, .inl ⟨_, val' (by simp [execOp, hop]) hrun, h5⟩⟩
 | slice t x lo hi mx =>
  simp only [aop, hop] at ha
  cases mx with
  | some m =>
   simp only at ha
   obtain ⟨y, c', hrun, h2, h3, h4, h5⟩ := Qgt hst ha (hev x) (Qbm hev lo) (Qbm hev hi) (Qbm hev (some m))
   exact ⟨c', h2, h3, h4, .inl ⟨_, val' (by simp [execOp, hop]) hrun, h5⟩⟩
  | none =>
   simp only [Option.map_eq_some_iff] at ha
   obtain ⟨y, ha, he⟩ := ha
   cases he
   obtain ⟨y, hrun, hr⟩ := QhK hst ha (hev x) (Qbm hev lo) (Qbm hev hi)
   exact Yq.pure hst (val (by simp [execOp, hop]) hrun) hr
 | fieldAddr t x i =>
  simp only [aop, hop, Option.map_eq_some_iff] at ha
  obtain ⟨y, ha, he⟩ := ha
  cases he
  obtain ⟨y, hrun, hr⟩ := QdD ha (hev x)
  exact Yq.pure hst (val (by simp [execOp, hop]) hrun) hr
 | field t x i =>
  simp only [aop, hop, Option.map_eq_some_iff] at ha
  obtain ⟨y, ha, he⟩ := ha
  cases he
  obtain ⟨y, hrun, hr⟩ := QhJ ha (hev x)
  exact Yq.pure hst (val (by simp [execOp, hop]) hrun) hr
 | indexAddr t x i =>
  simp only [aop, hop, Option.map_eq_some_iff] at ha
  obtain ⟨y, ha, he⟩ := ha
  cases he
  obtain ⟨y, hrun, hr⟩ := QcS ha (hev x) (hev i)
  exact Yq.pure hst (val (by simp [execOp, hop]) hrun) hr
 | index t x i =>
  simp only [aop, hop] at ha
  split at ha
  ·rename_i a b hx hi
   simp only [Option.map_eq_some_iff] at ha
   obtain ⟨y, ha, he⟩ := ha
   cases he
   have h1 := hev x
   rw [hx] at h1
   have h2 := hev i
   rw [hi] at h2
   generalize hu : ρ x = u at h1
   generalize hu2 : ρ i = u2 at h2
   cases h1; cases h2
   exact Yq.pure hst (val (by simp [execOp, hop, hu, hu2]) (Zv ha _)) (.v _)
  ·cases ha
 | lookup t x k ok =>
  simp only [aop, hop, Option.map_eq_some_iff] at ha
  obtain ⟨y, ha, he⟩ := ha
  cases he
  obtain ⟨y, hrun, hr⟩ := Qge hst ha (hev x) (hev k)
  exact Yq.pure hst (val (by simp [execOp, hop]) hrun) hr
 | mapUpdate t m k x =>
  simp only [aop, hop, Option.map_eq_some_iff] at ha
  obtain ⟨h2, ha, he⟩ := ha
  cases he
  obtain ⟨c', hrun, h3, h4, h5⟩ := Qak hst ha (hev m) (hev k) (hev x)
  exact ⟨c', h3, h4, h5, .inr ⟨unit' (by simp [execOp, hop]) hrun, .v _⟩⟩
 | insert t m k x =>
  simp only [aop, hop, Option.map_eq_some_iff] at ha
  obtain ⟨h2, ha, he⟩ := ha
  cases he
  obtain ⟨c', hrun, h3, h4, h5⟩ := Qak hst ha (hev m) (hev k) (hev x)
  exact ⟨c', h3, h4, h5, .inr ⟨unit' (by simp [execOp, hop]) hrun, .v _⟩⟩
 | extract t i =>
  simp only [aop, hop, Option.map_eq_some_iff] at ha
  obtain ⟨y, ha, he⟩ := ha
  cases he
  obtain ⟨y, hrun, hr⟩ := QfG ha (hev t)
  exact Yq.pure hst (val (by simp [execOp, hop]) hrun) hr
 | call q =>
  obtain ⟨callee, args, argTypes⟩ := q
  cases callee with
  | builtin b =>
   cases b <;> simp only [aop, hop] at ha <;> try (cases ha; done)
   case append =>
    split at ha
    ·rename_i x y t u hx ht
     have e1 := YD hx
     have e2 := YD ht
     subst e1; subst e2
     obtain ⟨y, c', hrun, h3, h4, h5, h6⟩ := Qg1 (ty := o.type) hst ha (hev x) (hev y)
     exact ⟨c', h3, h4, h5, .inl ⟨y, by simp [execOp, hop, resolve, invoke, builtin, hrun], h6⟩⟩
    ·cases ha
   case cap =>
    split at ha
    ·rename_i x t hx ht
     simp only [Option.map_eq_some_iff] at ha
     obtain ⟨z, ha, he⟩ := ha
     cases he
     have e1 := ZC hx
     have e2 := ZC ht
     subst e1; subst e2
     obtain ⟨y, hrun, hr⟩ := QjX (ty := o.type) ha (hev x)
     exact Yq.pure hst (x := y) (by simp [execOp, hop, resolve, invoke, builtin, hrun]) hr
    ·cases ha
   case copy =>
    split at ha
    ·rename_i x y t u hx ht
     have e1 := YD hx
     have e2 := YD ht
     subst e1; subst e2
     obtain ⟨z, c', hrun, h3, h4, h5, h6⟩ := Qjw (t' := u) (ty := o.type) hst ha (hev x) (hev y)
     exact ⟨c', h3, h4, h5, .inl ⟨z, by simp [execOp, hop, resolve, invoke, builtin, hrun], h6⟩⟩
    ·cases ha
   case clear =>
    split at ha
    ·rename_i x t hx ht
     have e1 := ZC hx
     have e2 := ZC ht
     subst e1; subst e2
     obtain ⟨z, c', hrun, h3, h4, h5, h6⟩ := Qia (ty := o.type) hst ha (hev x)
     exact ⟨c', h3, h4, h5, .inl ⟨z, by simp [execOp, hop, resolve, invoke, builtin, hrun], h6⟩⟩
    ·cases ha
   case len =>
    split at ha
    ·rename_i x t hx ht
     simp only [Option.map_eq_some_iff] at ha
     obtain ⟨y, ha, he⟩ := ha
     cases he
     have e1 := ZC hx
     have e2 := ZC ht
     subst e1; subst e2
     obtain ⟨y, hrun, hr⟩ := QkZ hst ha (hev x)
     exact Yq.pure hst (by simp [execOp, hop, resolve, invoke, builtin, hrun]) hr
    ·cases ha
   case max =>
    split at ha
    ·rename_i a b hab
     simp only [Option.map_eq_some_iff] at ha
     obtain ⟨y, ha, he⟩ := ha
     cases he
     obtain ⟨x, y', hx⟩ : ∃ x y', args.toList = [x, y'] := by
      have := congrArg List.length hab
      simp at this
      match hl : args.toList with
      | [x, y'] => exact ⟨x, y', rfl⟩
      | [] => rw [hl] at hab; simp at hab
      | [_] => rw [hl] at hab; simp at hab
      | _ :: _ :: _ :: _ => rw [hl] at hab; simp at hab
     rw [hx] at hab
     simp only [Qp1, Qp5, List.cons.injEq, Qqm] at hab
     have e1 := YD hx
     subst e1
     have h1 := hev x
     have h2 := hev y'
     rw [hab.1] at h1
     rw [hab.2] at h2
     generalize hu : ρ x = u at h1
     generalize hu2 : ρ y' = u2 at h2
     cases h1; cases h2
     exact Yq.pure hst (by simp [execOp, hop, resolve, invoke, builtin, hu, hu2, Zv ha]) (.v _)
    ·cases ha
   case min =>
    split at ha
    ·rename_i a b hab
     simp only [Option.map_eq_some_iff] at ha
     obtain ⟨y, ha, he⟩ := ha
     cases he
     obtain ⟨x, y', hx⟩ : ∃ x y', args.toList = [x, y'] := by
      match hl : args.toList with
      | [x, y'] => exact ⟨x, y', rfl⟩
      | [] => rw [hl] at hab; simp at hab
      | [_] => rw [hl] at hab; simp at hab
      | _ :: _ :: _ :: _ => rw [hl] at hab; simp at hab
     rw [hx] at hab
     simp only [Qp1, Qp5, List.cons.injEq, Qqm] at hab
     have e1 := YD hx
     subst e1
     have h1 := hev x
     have h2 := hev y'
     rw [hab.1] at h1
     rw [hab.2] at h2
     generalize hu : ρ x = u at h1
     generalize hu2 : ρ y' = u2 at h2
     cases h1; cases h2
     exact Yq.pure hst (by simp [execOp, hop, resolve, invoke, builtin, hu, hu2, Zv ha]) (.v _)
    ·cases ha
   case unsafeSliceData =>
    split at ha
    ·rename_i x hx
     simp only [Option.map_eq_some_iff] at ha
     obtain ⟨y, ha, he⟩ := ha
     cases he
     have e1 := ZC hx
     subst e1
     obtain ⟨y, hrun, hr⟩ := Qdi (P := P) (c := c) (ts := argTypes) (ty := o.type) ha (hev x)
     exact Yq.pure hst (by simp [execOp, hop, resolve, invoke, builtin, hrun]) hr
    ·cases ha
   case unsafeString =>
    split at ha
    ·rename_i x y t u hx ht
     have e1 := YD hx
     have e2 := YD ht
     subst e1; subst e2
     obtain ⟨y, c', hrun, h3, h4, h5, h6⟩ := Qbt (it := u) (ty := o.type) hst ha (hev x) (hev y)
     exact ⟨c', h3, h4, h5, .inl ⟨y, by simp [execOp, hop, resolve, invoke, builtin, hrun], h6⟩⟩
    ·cases ha
  | value f => simp only [aop, hop] at ha; cases ha
  | invoke a b => simp only [aop, hop] at ha; cases ha
 | _ => simp only [aop, hop] at ha; cases ha
def aopR (P : Program) (ev : Operand → AV) (h : AH) : Op → Option (AV × AH)
 | .call c => match c.callee with
  | .builtin .append => match c.args.toList, c.argTypes.toList with
   | [x, y], [t, u] => match ev y with
    | .v (.int _ k) => match ev x with
     | .v (.slice none 0 0) => Qc9 P t u k h
     | s => QeX P t u s k h
    | .v (.string str) => Qaz P t u (ev x) str h
    | z => match ev x with
     | .arr id lo len => Qbf P t u id lo len z h
     | s => Qbn P t u s z h
   | _, _ => none
  | _ => none
 | _ => none
theorem QiR {P : Program} {o : Oper} {c : Cx} (hst : St c) {ev : Operand → AV} {ρ : Operand → Value} (hev : ∀ x, Rel c (ev x) (ρ x)) {r : AV} {h' : AH} (ha : aopR P ev c.h o.op = some (r, h')) : Yq P o ρ c r h' := by
 cases hop : o.op with
 | call q =>
  obtain ⟨callee, args, argTypes⟩ := q
  cases callee with
  | builtin b =>
   cases b <;> simp only [aopR, hop] at ha <;> try (cases ha; done)
   case append =>
    split at ha
    ·rename_i x y t u hx ht
     have e1 := YD hx
     have e2 := YD ht
     subst e1; subst e2
     split at ha
     ·rename_i q k hy
      have h1 := hev y
      rw [hy] at h1
      generalize hu : ρ y = uy at h1
      cases h1
      split at ha
      ·rename_i hx0
       have h2 := hev x
       rw [hx0] at h2
       generalize hu2 : ρ x = ux at h2
       cases h2
       obtain ⟨z, c', hrun, h3, h4, h5, h6⟩ := Qd1 (ty := o.type) (q := q) hst ha
       exact ⟨c', h3, h4, h5, .inl ⟨z, by simp [execOp, hop, resolve, invoke, builtin, hu, hu2, hrun], h6⟩⟩
      ·obtain ⟨z, c', hrun, h3, h4, h5, h6⟩ := Qfn (ty := o.type) (q := q) hst ha (hev x)
       exact ⟨c', h3, h4, h5, .inl ⟨z, by simp [execOp, hop, resolve, invoke, builtin, hu, hrun], h6⟩⟩
     ·rename_i str hy
      have h1 := hev y
      rw [hy] at h1
      generalize hu : ρ y = uy at h1
      cases h1
      obtain ⟨z, c', hrun, h3, h4, h5, h6⟩ := Qfr (ty := o.type) hst ha (hev x)
      exact ⟨c', h3, h4, h5, .inl ⟨z, by simp [execOp, hop, resolve, invoke, builtin, hu, hrun], h6⟩⟩
     ·split at ha
      ·rename_i hx0
       obtain ⟨y, c', hrun, h3, h4, h5, h6⟩ := QfO (ty := o.type) hst ha (hx0 ▸ hev x) (hev y)
       exact ⟨c', h3, h4, h5, .inl ⟨y, by simp [execOp, hop, resolve, invoke, builtin, hrun], h6⟩⟩
      ·obtain ⟨y, c', hrun, h3, h4, h5, h6⟩ := ZR (ty := o.type) hst ha (hev x) (hev y)
       exact ⟨c', h3, h4, h5, .inl ⟨y, by simp [execOp, hop, resolve, invoke, builtin, hrun], h6⟩⟩
    ·cases ha
  | _ => simp [aopR, hop] at ha
 | _ => simp [aopR, hop] at ha
def Qf (ops : Array Oper) (tm : Nat → AV) (o : Oper) : Option Bool :=
 match o.guard with
 | none => some true
 | some (j, want) => match (ops[j]?).bind (·.dst) with
  | some d => match tm d with
   | .v (.bool b) => some (b == want)
   | .v _ => some false
   | _ => none
  | none => some false
theorem XN {N : Nat} {base : Bs × Fence} {c : Cx} {s : AS} {a : Act} (hr : SR N base c s a) {ops : Array Oper} {o : Oper} {b : Bool} (h : Qf ops s.tm o = some b) : Region.wanted o (yielded ops a.tmps) = b := by
 unfold Qf at h
 unfold Region.wanted yielded
 cases hg : o.guard with
 | none => simp only [hg] at h; cases h; rfl
 | some jw =>
  obtain ⟨j, want⟩ := jw
  simp only [hg] at h ⊢
  cases hd : (ops[j]?).bind (·.dst) with
  | none => simp only [hd] at h; cases h; rfl
  | some d =>
   simp only [hd, QpR] at h ⊢
   have h1 := hr.tm d
   rw [Array.getD_eq_getD_getElem?] at h1
   cases ht : s.tm d with
   | v x =>
    rw [ht] at h1
    simp only [ht] at h
    cases hx : a.tmps[d]? with
    | none =>
     rw [hx] at h1
     simp only [Option.getD_none] at h1
     have hxu : x = undef := by generalize hu : undef = u at h1; cases h1; rfl
     subst hxu
     simp only [undef] at h
     cases h
     rfl
    | some y =>
     rw [hx] at h1
     simp only [Option.getD_some] at h1
     have hxu : x = y := by cases h1; rfl
     subst hxu
     cases x <;> simp only [QpS] at h <;> subst h <;> rfl
   | _ => simp only [ht] at h; cases h
def QK (K : AS → Prop) (E : AV → AS → Prop) (N : Nat) (s : AS) (d : Option Tmp) : AOut → AH → Prop
 | .ret r, h' => K (AS.put N { s with h := h' } d r)
 | .panic r, h' => E r { s with h := h' }
def Qcg (P : Program) (ev : Operand → AV) : Op → Bool
 | .binOp op t x y _ => (match op with | .eql | .neq => true | _ => false) && (match ev x, ev y with | .sl _ [] _, .v (.slice none 0 0) => true | _, _ => false) && (match P.underlying t with | some (.slice _) => true | _ => false)
 | _ => false
def RowW (N e n : Nat) (s : AS) (d : Option Tmp) (K : AS → Prop) : Prop :=
 K (AS.put N { s with h := s.h ++ [.grow e n 0] } d (.sl n [] (some s.h.length))) ∨ K (AS.put N { s with h := s.h ++ [.dead] } d (.sl n [] (some s.h.length)))
def OpW (P : Program) (N : Nat) (o : Oper) (s : AS) (K : AS → Prop) (E : AV → AS → Prop) : Prop :=
 match o.op with
 | .buildSlice t 0 ps =>
  match Q5 P t, ps.toList with
  | some (e, n), [] => QM P t 0 [] s.h = some (.sl n [] (some s.h.length), s.h ++ [.grow e n 0]) ∧ RowW N e n s o.dst K
  | _, _ => False
 | .call q =>
  match q.callee with
  | .value f => FunW P (s.ev f) (q.args.toList.map s.ev) s.h (QK K E N s o.dst)
  | _ => match aop P s.ev o.type s.h o.op with
   | some (r, h') => K (AS.put N { s with h := h' } o.dst r)
   | none => match aopR P s.ev s.h o.op with
    | some (r, h') => K (AS.put N { s with h := h' } o.dst r)
    | none => False
 | .panic x => match s.ev x with
  | .ifc t y => E (.ifc t y) s
  | _ => False
 | op => match aop P s.ev o.type s.h op with
  | some (r, h') => K (AS.put N { s with h := h' } o.dst r)
  | none => Qcg P s.ev op = true ∧ ∀ b, K (AS.put N s o.dst (.v (.bool b)))
theorem Qf1 {P : Program} {c : Cx} {ev : Operand → AV} {ρ : Operand → Value} (hev : ∀ x, Rel c (ev x) (ρ x)) {o : Oper} (h : Qcg P ev o.op = true) : ∃ b, (execOp ρ o).run P c.w = .ok (.value (.bool b)) c.w := by
 cases ho : o.op with
 | binOp op t x y yt =>
  rw [ho] at h
  simp only [Qcg, Bool.and_eq_true] at h
  obtain ⟨⟨h1, h2⟩, h3⟩ := h
  split at h2
  ·rename_i s own e1 e2
   have hx := hev x
   have hy := hev y
   rw [e1] at hx
   rw [e2] at hy
   generalize hux : ρ x = u at hx
   generalize huy : ρ y = v at hy
   cases hy
   split at h3
   ·rename_i e hu
    have heq : ∃ b, (Op.equal t u (.slice none 0 0)).run P c.w = .ok b c.w := by
     suffices h : ∀ d, ∃ b, (Op.equalIn (d + 1) t u (.slice none 0 0)).run P c.w = .ok b c.w from h 9999
     intro d
     cases hx with
     | slnil => exact ⟨true, by simp [Op.equalIn, underlying, hu]⟩
     | slzero => exact ⟨false, by simp [Op.equalIn, underlying, hu]⟩
     | sl => exact ⟨false, by simp [Op.equalIn, underlying, hu]⟩
    obtain ⟨b, hb⟩ := heq
    have hsl : ∃ a n k, u = .slice a n k := by cases hx <;> exact ⟨_, _, _, rfl⟩
    obtain ⟨a, n, k, rfl⟩ := hsl
    cases op <;> simp only [QpQ] at h1
    ·exact ⟨b, by cases a <;> simp [execOp, ho, hux, huy, eqGuard, binOp, hb]⟩
    ·exact ⟨!b, by cases a <;> simp [execOp, ho, hux, huy, eqGuard, binOp, hb]⟩
   ·cases h3
  ·cases h2
 | _ => rw [ho] at h; simp [Qcg] at h
theorem QdB {P : Program} {N : Nat} {base : Bs × Fence} {o : Oper} {s : AS} {K : AS → Prop} {E : AV → AS → Prop} (H : OpW P N o s K E) {F : Fence} {n : Nat} {c : Cx} {a : Act} (hF : WF F) (hst : St c) (hr : SR N base c s a)
  {next : Act → World → Prop} {Qx : Exit → Act → World → Prop} (hK : ∀ s' c' a', K s' → Ev c c' → St c' → SR N base c' s' a' → next a' c'.w)
  (hE : ∀ r s' c' x, E r s' → Ev c c' → St c' → SR N base c' s' a → Rel c' r x → Qx (.panic [{ v := x, recovered := false }]) a c'.w) : o.wpIn F n P a c.w next Qx := by
 have hev : ∀ x, Rel c (s.ev x) (a.eval x) := hr.eval
 -- an operation of its own
 have plain : (∀ q, o.op ≠ .defer q) → ∀ {r h'}, aop P s.ev o.type s.h o.op = some (r, h') → K (AS.put N { s with h := h' } o.dst r) → o.wpIn F n P a c.w next Qx := by
  intro hd r h' ha hk
  rw [← hr.h] at ha
  obtain ⟨c', h1, h2, h3, h4⟩ := Qj3 hst hev ha
  refine ⟨fun f _ => hF.fn f, ?_⟩
  rw [Oper.semAt_eq _ _ _ hd]
  subst h3
  rcases h4 with ⟨x, hrun, hx⟩ | ⟨hrun, hx⟩
  ·rw [hrun]; exact hK _ c' _ hk h1 h2 (hr.put hst h1 o.dst hx)
  ·rw [hrun]; exact hK _ c' _ hk h1 h2 (hr.put hst h1 o.dst hx)
 unfold OpW at H
 split at H
 ·rename_i t ps hop
  split at H
  ·rename_i e n he hps
   have hps' : ps = #[] := by apply Array.ext'; simpa using hps
   subst hps'
   obtain ⟨ha, hk | hk⟩ := H
   ·exact plain (fun q => by rw [hop]; intro h; cases h) (r := .sl n [] (some s.h.length)) (h' := s.h ++ [.grow e n 0]) (by rw [hop]; simpa [aop] using ha) hk
   ·refine ⟨fun f _ => hF.fn f, ?_⟩
    rw [Oper.semAt_eq _ _ _ (fun q => by rw [hop]; intro h; cases h)]
    obtain ⟨hu, hsz⟩ := XD he
    have hrun : (execOp a.eval o).run P c.w = .ok (.value (.slice (some ⟨c.w.heap.size, 0, none⟩) 0 0)) (c.w.alloc (.cells #[] e)) := by
     simp [execOp, hop, Qa5 hu hsz c.w]
    rw [hrun]
    have hg := Grows.alloc c.w (.cells #[] e)
    have ho : ∀ B, (none : Option Nat) = some B → c.w.heap.size ≤ B := fun B h => by cases h
    have hev' := Ev.add hst hg .dead none ho
    have hst' : St (c.add (c.w.alloc (.cells #[] e)) .dead none) := St.add hst hg _ _ ho trivial
    refine hK _ (c.add (c.w.alloc (.cells #[] e)) .dead none) _ (by rw [← hr.h] at hk; exact hk) hev' hst' (hr.put hst hev' o.dst ?_)
    refine .slzero _ _ _ fun b hb => ?_
    cases hb
    refine ⟨by simp [Cx.add], fun e2 s2 n2 hg2 => ?_⟩
    simp [Cx.add] at hg2
  ·exact H.elim
 ·rename_i q hop
  split at H
  ·rename_i f hcal
   refine ⟨fun f _ => hF.fn f, ?_⟩
   rw [Oper.semAt_eq _ _ _ (fun q => by rw [hop]; intro h; cases h)]
   have hrun : (execOp a.eval o).run P c.w = ((do let d ← Deferred.ofValue (a.eval f) (q.args.map a.eval); invoke d.target d.args : Sem Next)).run P c.w := by
    simp [execOp, hop, resolve, hcal]
   rw [hrun]
   refine H F n c _ _ hF hst hr.h (hev f) (Qfj hev q.args) o a next Qx ?_ ?_
   ·intro r c' x hk h1 h2 hx
    exact hK _ c' _ hk h1 h2 (hr.put hst h1 o.dst hx)
   ·intro r c' x he h1 h2 hx
    exact hE r _ c' x he h1 h2 ⟨rfl, hr.size, Nat.le_trans hr.above h1.size, hr.defers.ev h1, RoundOk.ev h1 hr.round, fun t => (hr.tm t).ev hst h1⟩ hx
  ·split at H
   ·rename_i r h' ha
    exact plain (fun q => by rw [hop]; intro h; cases h) ha H
   ·split at H
    ·rename_i r h' ha
     rw [← hr.h] at ha
     obtain ⟨c', h1, h2, h3, h4⟩ := QiR hst hev ha
     refine ⟨fun f _ => hF.fn f, ?_⟩
     rw [Oper.semAt_eq _ _ _ (fun q => by rw [hop]; intro h; cases h)]
     subst h3
     rcases h4 with ⟨x, hrun, hx⟩ | ⟨hrun, hx⟩
     ·rw [hrun]; exact hK _ c' _ H h1 h2 (hr.put hst h1 o.dst hx)
     ·rw [hrun]; exact hK _ c' _ H h1 h2 (hr.put hst h1 o.dst hx)
    ·exact H.elim
 ·rename_i x hop
  split at H
  ·rename_i t y hx
   have h1 := hev x
   rw [hx] at h1
   generalize hu : a.eval x = u at h1
   cases h1 with
   | ifc t y u h2 =>
    refine ⟨fun f _ => hF.fn f, ?_⟩
    rw [Oper.semAt_eq _ _ _ (fun q => by rw [hop]; intro h; cases h)]
    have hrun : (execOp a.eval o).run P c.w = .halt (.panic (.iface t u)) c.w := by
     simp [execOp, hop, Instr.panic, hu]
    rw [hrun]
    exact hE _ s c _ H (Ev.refl c) hst hr (.ifc t y u h2)
  ·exact H.elim
 ·rename_i op hnb hnc hnp
  split at H
  ·rename_i r h' ha
   refine plain (fun q hq => ?_) ha H
   rw [hq] at ha
   simp [aop] at ha
  ·obtain ⟨hq, hk⟩ := H
   obtain ⟨b, hrun⟩ := Qf1 hev hq
   refine ⟨fun f _ => hF.fn f, ?_⟩
   rw [Oper.semAt_eq _ _ _ (fun q hq' => by rw [hq'] at hq; simp [Qcg] at hq), hrun]
   have hp := hr.put hst (Ev.refl c) o.dst (.v (.bool b))
   rw [hr.h] at hp
   exact hK _ c _ (hk b) (Ev.refl c) hst hp
def OpsW (P : Program) (N : Nat) (ops : Array Oper) : List Oper → (AS → Prop) → (AV → AS → Prop) → AS → Prop
 | [], Q, E, s => Q s
 | o :: rest, Q, E, s =>
  match Qf ops s.tm o with
  | some true => OpW P N o s (OpsW P N ops rest Q E) E
  | some false => OpsW P N ops rest Q E (AS.put N s o.dst (.v undef))
  | none => False
theorem Qb6 {P : Program} {N : Nat} {base : Bs × Fence} {ops : Array Oper} {Q : AS → Prop} {E : AV → AS → Prop} {F : Fence} {n : Nat} (hF : WF F) {Qx : Exit → Act → World → Prop} : ∀ (l : List Oper) (k : Nat) (s : AS) (c : Cx) (a : Act), (∀ j, l[j]? = ops[k + j]?) →
  OpsW P N ops l Q E s → St c → SR N base c s a → (∀ s' c' a', Q s' → Ev c c' → St c' → SR N base c' s' a' → Qx .normal a' c'.w) →
  (∀ r s' c' a' x, E r s' → Ev c c' → St c' → SR N base c' s' a' → Rel c' r x → Qx (.panic [{ v := x, recovered := false }]) a' c'.w) → wpOpsIn F n P ops Qx (List.range' k l.length) a c.w
 | [], k, s, c, a, hl, H, hst, hr, hQ, hE => by
  simp only [Qp0, List.range'_zero, wpOpsIn]
  exact hQ s c a H (Ev.refl c) hst hr
 | o :: l, k, s, c, a, hl, H, hst, hr, hQ, hE => by
  have h0 : ops[k]? = some o := by simpa using (hl 0).symm
  have hl' : ∀ j, l[j]? = ops[k + 1 + j]? := fun j => by have := hl (j + 1); simpa [Nat.add_assoc, Nat.add_comm 1 j] using this
  simp only [QpZ, List.range'_succ, wpOpsIn, h0]
  simp only [OpsW] at H
  split at H
  ·rename_i hw
   rw [XN hr hw]
   simp only [if_true]
   refine QdB H hF hst hr ?_ ?_
   ·intro s' c' a' hK h1 h2 h3
    exact Qb6 hF l (k + 1) s' c' a' hl' hK h2 h3 (fun s2 c2 a2 q e2 t2 r2 => hQ s2 c2 a2 q (Ev.trans hst h1 e2) t2 r2) (fun r s2 c2 a2 x q e2 t2 r2 => hE r s2 c2 a2 x q (Ev.trans hst h1 e2) t2 r2)
   ·intro r s' c' x he h1 h2 h3 hx
    exact hE r s' c' a x he h1 h2 h3 hx
  ·rename_i hw
   rw [XN hr hw]
   simp only [QpQ, if_false]
   refine ⟨fun f _ => hF.fn f, ?_⟩
   have hr' := hr.put hst (Ev.refl c) o.dst (.v undef)
   rw [hr.h] at hr'
   exact Qb6 hF l (k + 1) _ c _ hl' H hst hr' hQ hE
  ·exact H.elim
theorem Qb9 {P : Program} {N : Nat} {Q : AExit → AS → Prop} {s : AS} {id : Nat} {ops : Array Oper} (H : OpsW P N ops ops.toList (fun s' => Q .normal s') (fun r s' => Q (.panic r) s') s) : Xz P N (.region id ops false) Q s := by
 intro F n base c a hF hst hr R hR
 refine wpIn_region ?_
 rw [List.range_eq_range', ← Array.length_toList]
 refine Qb6 hF ops.toList 0 s c a (by simp) H hst hr ?_ ?_
 ·intro s' c' a' hQ h1 h2 h3
  exact hR _ s' c' a' _ hQ h1 h2 h3 rfl
 ·intro r s' c' a' x hQ h1 h2 h3 hx
  exact hR _ s' c' a' _ hQ h1 h2 h3 ⟨x, rfl, hx⟩
inductive Below (n : Nat) : AV → Prop
 | v (x : Value) : Below n (.v x)
 | junk : Below n .junk
 | agg (l : List AV) (h : ∀ a ∈ l, Below n a) : Below n (.agg l)
 | tup (l : List AV) (h : ∀ a ∈ l, Below n a) : Below n (.tup l)
 | sl (s : Nat) (xs : List AV) (own : Option Nat) (h : ∀ a ∈ flat xs, Below n a) (hb : ∀ b, own = some b → b < n) : Below n (.sl s xs own)
 | pin (s : Nat) (xs : List AV) (k off : Nat) (h : ∀ a ∈ flat xs, Below n a) : Below n (.pin s xs k off)
 | ptr (id k off : Nat) (h : id < n) : Below n (.ptr id k off)
 | arr (id lo len : Nat) (h : id < n) : Below n (.arr id lo len)
 | row (id lo len cap : Nat) (h : id < n) : Below n (.row id lo len cap)
 | mp (id : Nat) (h : id < n) : Below n (.mp id)
 | fn (f : Fn) (first cap : List AV) (h1 : ∀ a ∈ first, Below n a) (h2 : ∀ a ∈ cap, Below n a) : Below n (.fn f first cap)
 | ifc (t : TypeId) (x : AV) (h : Below n x) : Below n (.ifc t x)
 | spt (s : Nat) (xs : List AV) (own : Option Nat) (h : Below n (.sl s xs own)) : Below n (.spt s xs own)
theorem Zk {α : Type} {l : List α} {a : α} (h : a ∈ l) : ∃ j : Nat, l[j]? = some a := by
 obtain ⟨j, hj, rfl⟩ := List.getElem_of_mem h
 exact ⟨j, List.getElem?_eq_getElem hj⟩
theorem Y7 {vs : Array Value} {n j : Nat} (h : vs.size = n) (hj : j < n) : ∃ u, vs[j]? = some u := ⟨_, Array.getElem?_eq_getElem (by omega)⟩
theorem Rel.ids {c : Cx} {a : AV} {x : Value} (h : Rel c a x) : Below c.h.length a := by
 induction h with
 | v x => exact .v x
 | junk x => exact .junk
 | agg l cs hl _ ih =>
  refine .agg l fun a ha => ?_
  obtain ⟨j, hj⟩ := Zk ha
  obtain ⟨u, hu⟩ := Y7 hl (QF hj)
  exact ih j a u hj hu
 | tup l cs hl _ ih =>
  refine .tup l fun a ha => ?_
  obtain ⟨j, hj⟩ := Zk ha
  obtain ⟨u, hu⟩ := Y7 hl (QF hj)
  exact ih j a u hj hu
 | slnil s own ht => exact .sl s [] own (by simp [flat]) fun b hb => (ht b hb).1
 | slzero s own ba ht => exact .sl s [] own (by simp [flat]) fun b hb => (ht b hb).1
 | sl s xs own B o cap f hs hcap hmax hc _ ht ih =>
  refine .sl s xs own (fun a ha => ?_) fun b hb => (ht b hb).1.1
  obtain ⟨j, hj⟩ := Zk ha
  exact ih j a hj
 | pin s xs k off B o f hs hc _ ih =>
  refine .pin s xs k off fun a ha => ?_
  obtain ⟨j, hj⟩ := Zk ha
  exact ih j a hj
 | ptr id k off x hid ho h1 => exact .ptr id k off hid
 | arr id lo len x hid ho h1 => exact .arr id lo len hid
 | row id lo len cap x hid ho h1 => exact .row id lo len cap hid
 | mp id x hid ho h1 => exact .mp id hid
 | fn f first cap vs ws e1 e2 _ _ ih1 ih2 =>
  refine .fn f first cap (fun a ha => ?_) fun a ha => ?_
  ·obtain ⟨j, hj⟩ := Zk ha
   obtain ⟨u, hu⟩ := Y7 e1 (QF hj)
   exact ih1 j a u hj hu
  ·obtain ⟨j, hj⟩ := Zk ha
   obtain ⟨u, hu⟩ := Y7 e2 (QF hj)
   exact ih2 j a u hj hu
 | ifc t a u _ ih => exact .ifc t a ih
 | spt s xs own p n k _ ih => exact .spt s xs own ih
def Cx.cut (c : Cx) (m : Nat) : Cx := { c with h := c.h.take m }
theorem Yg {c : Cx} {m id : Nat} {b : AB} (h : (c.cut m).h[id]? = some b) : id < m ∧ c.h[id]? = some b := by
 have hlt := QF h
 simp only [Cx.cut, List.length_take] at hlt h
 rw [List.getElem?_take_of_lt (by omega)] at h
 exact ⟨by omega, h⟩
theorem Qkd {c : Cx} {m id : Nat} {b : AB} (hm : id < m) (h : c.h[id]? = some b) : (c.cut m).h[id]? = some b := by
 simp only [Cx.cut]; rw [List.getElem?_take_of_lt hm]; exact h
theorem QfI {c : Cx} {m B o : Nat} (h : c.prot B o) : (c.cut m).prot B o :=
 ⟨h.1, fun id b hb hl hρ => h.2 id b (Yg hb).2 hl hρ⟩
theorem Rel.cut {c : Cx} {m : Nat} (hm : m ≤ c.h.length) {a : AV} {x : Value} (h : Rel c a x) (hb : Below m a) : Rel (c.cut m) a x := by
 have hlen : (c.cut m).h.length = m := by simp [Cx.cut]; omega
 induction h with
 | v x => exact .v x
 | junk x => exact .junk x
 | agg l cs hl _ ih => cases hb with | agg _ h => exact .agg l cs hl fun j a u h1 h2 => ih j a u h1 h2 (h a (List.mem_of_getElem? h1))
 | tup l cs hl _ ih => cases hb with | tup _ h => exact .tup l cs hl fun j a u h1 h2 => ih j a u h1 h2 (h a (List.mem_of_getElem? h1))
 | slnil s own ht =>
  cases hb with
  | sl _ _ _ h hown =>
   refine .slnil s own fun b hb => ⟨by rw [hlen]; exact hown b hb, fun e s' n hg => (ht b hb).2 e s' n (Yg hg).2⟩
 | slzero s own ba ht =>
  cases hb with
  | sl _ _ _ h hown =>
   refine .slzero s own ba fun b hb => ⟨by rw [hlen]; exact hown b hb, fun e s' n hg => (ht b hb).2 e s' n (Yg hg).2⟩
 | sl s xs own B o cap f hs hcap hmax hc _ ht ih =>
  cases hb with
  | sl _ _ _ h hown =>
   exact .sl s xs own B o cap f hs hcap hmax (fun j a hj => ⟨⟨(hc j a hj).1.1, QfI (hc j a hj).1.2⟩, (hc j a hj).2⟩) (fun j a hj => ih j a hj (h a (List.mem_of_getElem? hj)))
    fun b hb => ⟨⟨by rw [hlen]; exact hown b hb, let ⟨x, g1, g2⟩ := (ht b hb).1.2; ⟨x, Qkd (hown b hb) g1, g2⟩⟩, fun e s' n hg => (ht b hb).2 e s' n (Yg hg).2⟩
 | pin s xs k off B o f hs hc _ ih =>
  cases hb with
  | pin _ _ _ _ h =>
   exact .pin s xs k off B o f hs (fun j a hj => ⟨⟨(hc j a hj).1.1, QfI (hc j a hj).1.2⟩, (hc j a hj).2⟩) (fun j a hj => ih j a hj (h a (List.mem_of_getElem? hj)))
 | ptr id k off x hid ho h1 => cases hb with | ptr _ _ _ h => exact .ptr id k off x (by rw [hlen]; exact h) ho fun ty s xs hg => h1 ty s xs (Yg hg).2
 | arr id lo len x hid ho h1 => cases hb with | arr _ _ _ h => exact .arr id lo len x (by rw [hlen]; exact h) ho fun ty s xs hg => h1 ty s xs (Yg hg).2
 | row id lo len cap x hid ho h1 => cases hb with | row _ _ _ _ h => exact .row id lo len cap x (by rw [hlen]; exact h) ho fun ty s xs hg => h1 ty s xs (Yg hg).2
 | mp id x hid ho h1 => cases hb with | mp _ h => exact .mp id x (by rw [hlen]; exact h) ho ⟨fun es hg => h1.1 es (Yg hg).2, fun i hg => h1.2.1 i (Yg hg).2, fun s p hg => h1.2.2 s p (Yg hg).2⟩
 | fn f first cap vs ws e1 e2 _ _ ih1 ih2 =>
  cases hb with
  | fn _ _ _ h1 h2 => exact .fn f first cap vs ws e1 e2 (fun j a u h3 h4 => ih1 j a u h3 h4 (h1 a (List.mem_of_getElem? h3))) (fun j a u h3 h4 => ih2 j a u h3 h4 (h2 a (List.mem_of_getElem? h3)))
 | ifc t a u _ ih => cases hb with | ifc _ _ h => exact .ifc t a u (ih h)
 | spt s xs own p n k _ ih => cases hb with | spt _ _ _ h => exact .spt s xs own p n k (ih h)
def AB.Below (n : Nat) : AB → Prop
 | .cells _ _ xs => ∀ a ∈ flat xs, Ab.Below n a
 | .grow _ _ _ => True
 | .map es => ∀ kv ∈ es, Ab.Below n kv.2
 | .loop i => ∀ t, Ab.Below n (i.tm t)
 | .iter _ _ => True
 | .glob _ _ _ _ => True
 | .dead => True
 | .gone => True
theorem Below.mono {n m : Nat} (hnm : n ≤ m) {a : AV} (h : Ab.Below n a) : Ab.Below m a := by
 induction h with
 | v x => exact .v x
 | junk => exact .junk
 | agg l _ ih => exact .agg l ih
 | tup l _ ih => exact .tup l ih
 | sl s xs own _ ho ih => exact .sl s xs own ih fun b hb => Nat.lt_of_lt_of_le (ho b hb) hnm
 | pin s xs k off _ ih => exact .pin s xs k off ih
 | ptr id k off h => exact .ptr id k off (Nat.lt_of_lt_of_le h hnm)
 | arr id lo len h => exact .arr id lo len (Nat.lt_of_lt_of_le h hnm)
 | row id lo len cap h => exact .row id lo len cap (Nat.lt_of_lt_of_le h hnm)
 | mp id h => exact .mp id (Nat.lt_of_lt_of_le h hnm)
 | fn f a b _ _ ih1 ih2 => exact .fn f a b ih1 ih2
 | ifc t a _ ih => exact .ifc t _ ih
 | spt s xs own _ ih => exact .spt s xs own ih
theorem AB.Below.mono {n m : Nat} {b : AB} (h : b.Below n) (hnm : n ≤ m) : b.Below m := by
 cases b with
 | cells t s xs => exact fun a ha => Ab.Below.mono hnm (h a ha)
 | grow => trivial
 | map es => exact fun kv hkv => Ab.Below.mono hnm (h kv hkv)
 | loop i => exact fun t => Ab.Below.mono hnm (h t)
 | iter => trivial
 | glob => trivial
 | dead => trivial
 | gone => trivial
theorem St.below {c : Cx} (hs : St c) {id : Nat} {b : AB} (hb : c.h[id]? = some b) : b.Below c.h.length := by
 have := hs.blocks id b hb
 cases b with
 | cells ty s xs =>
  obtain ⟨B, cur, h1, h2, h3, h4⟩ := this
  intro a ha
  obtain ⟨j, hj⟩ := Zk ha
  obtain ⟨u, _, _, hr⟩ := h4 j a hj
  exact hr.ids
 | grow => trivial
 | map es =>
  obtain ⟨B, ents, clock, h1, h2, h3, h4⟩ := this
  intro kv hkv
  obtain ⟨j, hj⟩ := Zk hkv
  have hlt : j < ents.size := by rw [h3]; exact QF hj
  exact (h4 j kv ents[j] hj (Array.getElem?_eq_getElem hlt)).2.ids
 | loop i =>
  obtain ⟨B, r, h1, h2, h3, h4⟩ := this
  exact fun t => (h4 t).ids
 | iter => trivial
 | glob => trivial
 | dead => trivial
 | gone => trivial
theorem St.cut {c : Cx} (hs : St c) {m : Nat} (hm : m ≤ c.h.length) (hb : ∀ b ∈ c.h.take m, b.Below m) : St (c.cut m) := by
 refine ⟨fun id b hg => ?_, fun i j a b B hi hj hla hlb hρi hρj => hs.inj i j a b B (Yg hi).2 (Yg hj).2 hla hlb hρi hρj⟩
 have hbl : b.Below m := hb b (List.mem_of_getElem? hg)
 have h0 := hs.blocks id b (Yg hg).2
 cases b with
 | cells ty s xs =>
  obtain ⟨B, cur, h1, h2, h3, h4⟩ := h0
  exact ⟨B, cur, h1, h2, h3, fun j a hj => let ⟨u, h5, h6, h7⟩ := h4 j a hj; ⟨u, h5, h6, h7.cut hm (hbl a (List.mem_of_getElem? hj))⟩⟩
 | grow e s n => exact h0
 | map es =>
  obtain ⟨B, ents, clock, h1, h2, h3, h4⟩ := h0
  exact ⟨B, ents, clock, h1, h2, h3, fun j kv e hj he => ⟨(h4 j kv e hj he).1, (h4 j kv e hj he).2.cut hm (hbl kv (List.mem_of_getElem? hj))⟩⟩
 | loop i =>
  obtain ⟨B, r, h1, h2, h3, h4⟩ := h0
  exact ⟨B, r, h1, h2, h3, fun t => (h4 t).cut hm (hbl t)⟩
 | iter s p => exact h0
 | glob g cs ty fr => exact h0
 | dead => trivial
 | gone => trivial
theorem Ev.cut {c c' : Cx} (h : Ev c c') {m : Nat} (h1 : c.h.length ≤ m) (h2 : m ≤ c'.h.length) : Ev c (c'.cut m) := by
 refine ⟨h.os, h.tape, h.output, h.size, by simp [Cx.cut]; omega, h.frame, fun id b hb => ?_, fun id B b h3 h4 hl hρ => (h.fresh id B b h3 (Yg h4).2 hl hρ).imp (fun e => e) fun ⟨i, ty, s, xs, a1, a2, a3⟩ => ⟨i, ty, s, xs, a1, a2, by
  have := QF a1
  simp only [Cx.cut, List.getElem?_take]; rw [if_pos (by omega)]; exact a3⟩⟩
 obtain ⟨b', hb', hk⟩ := h.kin id b hb
 have hlt := QF hb
 exact ⟨b', Qkd (by omega) hb', hk⟩
inductive Frz (h : AH) (m : Nat) : AV → AV → Prop
 | nil (s : Nat) : Frz h m (.v (.slice none 0 0)) (.sl s [] none)
 | keep {a : AV} (hb : Below m a) : Frz h m a a
 | tok {s : Nat} {xs : List AV} {own : Option Nat} (hb : ∀ a ∈ flat xs, Below m a) : Frz h m (.sl s xs own) (.sl s xs none)
 | arr {id lo len s : Nat} {ty : TypeId} {xs : List AV} (hi : m ≤ id) (hg : h[id]? = some (.cells ty s xs)) (hl : lo + len ≤ xs.length) (hb : ∀ a ∈ flat xs, Below m a) :
   Frz h m (.arr id lo len) (.sl s ((xs.drop lo).take len) none)
 | row {id lo len cap s : Nat} {ty : TypeId} {xs : List AV} (hi : m ≤ id) (hg : h[id]? = some (.cells ty s xs)) (hl : lo + len ≤ xs.length) (hb : ∀ a ∈ flat xs, Below m a) :
   Frz h m (.row id lo len cap) (.sl s ((xs.drop lo).take len) none)
 | ptr {id k off s : Nat} {ty : TypeId} {xs : List AV} (hi : m ≤ id) (hg : h[id]? = some (.cells ty s xs)) (hb : ∀ a ∈ flat xs, Below m a) : Frz h m (.ptr id k off) (.pin s xs k off)
 | agg {l l' : List AV} (hl : l'.length = l.length) (hp : ∀ (j : Nat) a a', l[j]? = some a → l'[j]? = some a' → Frz h m a a') : Frz h m (.agg l) (.agg l')
 | tup {l l' : List AV} (hl : l'.length = l.length) (hp : ∀ (j : Nat) a a', l[j]? = some a → l'[j]? = some a' → Frz h m a a') : Frz h m (.tup l) (.tup l')
 | fn {f : Fn} {a a' b b' : List AV} (hl : a'.length = a.length) (hl' : b'.length = b.length) (hp : ∀ (j : Nat) x x', a[j]? = some x → a'[j]? = some x' → Frz h m x x')
   (hq : ∀ (j : Nat) x x', b[j]? = some x → b'[j]? = some x' → Frz h m x x') : Frz h m (.fn f a b) (.fn f a' b')
theorem Qa8 {c : Cx} (hs : St c) {m : Nat} (hm : m ≤ c.h.length) {id B ty s : Nat} {xs : List AV} (hi : m ≤ id) (hg : c.h[id]? = some (.cells ty s xs)) (hρ : c.ρ id = some B) (hb : ∀ a ∈ flat xs, Below m a) :
  (∀ x ∈ xs, x.cells.length = s) ∧ ∃ f : Nat → Value, ∀ (j : Nat) a, (flat xs)[j]? = some a → ((c.cut m).cellP B (0 + j) (f j) ∧ (f j).oneCell' = true) ∧ Rel (c.cut m) a (f j) := by
 obtain ⟨B', cur, h1, h2, h3, h4⟩ := hs.blocks id _ hg
 rw [hρ] at h1; cases h1
 refine ⟨h3, fun j => cur.getD j undef, fun j a hj => ?_⟩
 obtain ⟨u, h5, h6, h7⟩ := h4 j a hj
 have e : cur.getD j undef = u := by rw [Array.getD_eq_getD_getElem?, h5]; rfl
 show ((c.cut m).cellP B (0 + j) (cur.getD j undef) ∧ (cur.getD j undef).oneCell' = true) ∧ Rel (c.cut m) a (cur.getD j undef)
 rw [e]
 refine ⟨⟨⟨by show c.w.cell? _ = _; rw [Nat.zero_add, Xn h2]; exact h5, ?_⟩, h6⟩, h7.cut hm (hb a (List.mem_of_getElem? hj))⟩
 refine ⟨hs.lt hg rfl hρ, fun id' b' hb' hl' hρ' => ?_⟩
 obtain ⟨hlt, hb''⟩ := Yg hb'
 have := hs.inj id' id b' _ B hb'' hg hl' rfl hρ' hρ
 omega
theorem Frz.rel {c : Cx} (hs : St c) {m : Nat} (hm : m ≤ c.h.length) {a a' : AV} (h : Frz c.h m a a') : ∀ {x : Value}, Rel c a x → Rel (c.cut m) a' x := by
 induction h with
 | nil s => intro x hr; cases hr; exact .slnil s none fun b hb => by cases hb
 | keep hb => exact fun hr => hr.cut hm hb
 | @tok s xs own hb =>
  intro x hr
  cases hr with
  | slnil _ _ ht => exact .slnil s none fun b hb => by cases hb
  | slzero _ _ ba ht => exact .slzero s none ba fun b hb => by cases hb
  | sl _ _ _ B o cap f hs' hcap hmax hc hr ht =>
   exact .sl s xs none B o cap f hs' hcap hmax (fun j a hj => ⟨⟨(hc j a hj).1.1, QfI (hc j a hj).1.2⟩, (hc j a hj).2⟩) (fun j a hj => (hr j a hj).cut hm (hb a (List.mem_of_getElem? hj))) fun b hb => by cases hb
 | @arr id lo len s ty xs hi hg hl hb =>
  intro x hr
  cases hr with
  | arr _ _ _ x hid ho h1 =>
   obtain ⟨B, cap, hρ, rfl, h2, h3, _⟩ := h1 _ _ _ hg
   obtain ⟨h4, f, h5⟩ := Qa8 hs hm hi hg hρ hb
   have hlen : ((xs.drop lo).take len).length = len := by simp; omega
   have hdrop : ∀ y ∈ xs.drop lo, y.cells.length = s := fun y hy => h4 y (List.mem_of_mem_drop hy)
   have hget : ∀ (j : Nat) a, (flat ((xs.drop lo).take len))[j]? = some a → (flat xs)[lo * s + j]? = some a := by
    intro j a hj
    rw [X7 hdrop (by simp; omega)] at hj
    have hlt := QF hj
    rw [List.length_take] at hlt
    rw [List.getElem?_take_of_lt (by omega), Ys h4 (by omega), List.getElem?_drop] at hj
    exact hj
   have := Rel.sl (c := c.cut m) s ((xs.drop lo).take len) none B (lo * s) cap (fun j => f (lo * s + j)) (fun y hy => hdrop y (List.mem_of_mem_take hy)) (by omega) h3
    (fun j a hj => by have := (h5 _ a (hget j a hj)).1; rwa [Nat.zero_add] at this) (fun j a hj => (h5 _ a (hget j a hj)).2) (fun b hb => by cases hb)
   rwa [hlen] at this
 | @row id lo len cap s ty xs hi hg hl hb =>
  intro x hr
  cases hr with
  | row _ _ _ _ x hid ho h1 =>
   obtain ⟨B, cur, hρ, rfl, h2, h3, _⟩ := h1 _ _ _ hg
   obtain ⟨h4, f, h5⟩ := Qa8 hs hm hi hg hρ hb
   have hlen : ((xs.drop lo).take len).length = len := by simp; omega
   have hdrop : ∀ y ∈ xs.drop lo, y.cells.length = s := fun y hy => h4 y (List.mem_of_mem_drop hy)
   have hget : ∀ (j : Nat) a, (flat ((xs.drop lo).take len))[j]? = some a → (flat xs)[lo * s + j]? = some a := by
    intro j a hj
    rw [X7 hdrop (by simp; omega)] at hj
    have hlt := QF hj
    rw [List.length_take] at hlt
    rw [List.getElem?_take_of_lt (by omega), Ys h4 (by omega), List.getElem?_drop] at hj
    exact hj
   have := Rel.sl (c := c.cut m) s ((xs.drop lo).take len) none B (lo * s) cap (fun j => f (lo * s + j)) (fun y hy => hdrop y (List.mem_of_mem_take hy)) (by omega) h3
    (fun j a hj => by have := (h5 _ a (hget j a hj)).1; rwa [Nat.zero_add] at this) (fun j a hj => (h5 _ a (hget j a hj)).2) (fun b hb => by cases hb)
   rwa [hlen] at this
 | @ptr id k off s ty xs hi hg hb =>
  intro x hr
  cases hr with
  | ptr _ _ _ x hid ho h1 =>
   obtain ⟨B, hρ, rfl⟩ := h1 _ _ _ hg
   obtain ⟨h4, f, h5⟩ := Qa8 hs hm hi hg hρ hb
   have := Rel.pin (c := c.cut m) s xs k off B 0 f h4 (fun j a hj => (h5 j a hj).1) (fun j a hj => (h5 j a hj).2)
   rwa [Nat.zero_add] at this
 | @agg l l' hl _ ih =>
  intro x hr
  cases hr with
  | agg _ cs hl' hr =>
   refine .agg _ cs (by omega) fun j a' u ha' hu => ?_
   obtain ⟨a, ha⟩ : ∃ a, l[j]? = some a := ⟨_, List.getElem?_eq_getElem (by rw [← hl]; exact QF ha')⟩
   exact ih j a a' ha ha' (hr j a u ha hu)
 | @tup l l' hl _ ih =>
  intro x hr
  cases hr with
  | tup _ cs hl' hr =>
   refine .tup _ cs (by omega) fun j a' u ha' hu => ?_
   obtain ⟨a, ha⟩ : ∃ a, l[j]? = some a := ⟨_, List.getElem?_eq_getElem (by rw [← hl]; exact QF ha')⟩
   exact ih j a a' ha ha' (hr j a u ha hu)
 | @fn f p p' q q' hl hl' _ _ ih1 ih2 =>
  intro x hr
  cases hr with
  | fn _ _ _ vs ws e1 e2 h1 h2 =>
   refine .fn _ _ _ vs ws (by omega) (by omega) (fun j a' u ha' hu => ?_) (fun j a' u ha' hu => ?_)
   ·obtain ⟨a, ha⟩ : ∃ a, p[j]? = some a := ⟨_, List.getElem?_eq_getElem (by rw [← hl]; exact QF ha')⟩
    exact ih1 j a a' ha ha' (h1 j a u ha hu)
   ·obtain ⟨a, ha⟩ : ∃ a, q[j]? = some a := ⟨_, List.getElem?_eq_getElem (by rw [← hl']; exact QF ha')⟩
    exact ih2 j a a' ha ha' (h2 j a u ha hu)
def Qr (P : Program) (s : AS) : ResultVar → Option AV
 | .tmp t => some (s.tm t)
 | .cell a t => QA P t (s.tm a) s.h
def Ql (P : Program) (s : AS) (rs : List ResultVar) : Option AV :=
 match rs with
 | [r] => Qr P s r
 | rs => (rs.mapM (Qr P s)).map .tup
def resF (tmps : Array Value) : ResultVar → Sem Value
 | .tmp t => pure (tmps.getD t undef)
 | .cell p t => do loadVar t (← asAddr (tmps.getD p undef))
theorem Qje (fn : Func) (tmps : Array Value) : results fn tmps = (do let vs ← fn.results.mapM (resF tmps); pure (if h : vs.size = 1 then vs[0] else .tuple vs)) := by
 unfold results
 congr 1
theorem Qch {P : Program} {N : Nat} {base : Bs × Fence} {c : Cx} (hst : St c) {s : AS} {a : Act} (hr : SR N base c s a) {rv : ResultVar} {r : AV} (h : Qr P s rv = some r) :
  ∃ x, (resF a.tmps rv).run P c.w = .ok x c.w ∧ Rel c r x := by
 cases rv with
 | tmp t => simp only [Qr] at h; cases h; exact ⟨_, rfl, hr.tm t⟩
 | cell p t =>
  simp only [Qr] at h
  rw [← hr.h] at h
  obtain ⟨x, hrun, hx⟩ := Qda hst h (hr.tm p)
  refine ⟨x, ?_, hx⟩
  rw [← hrun]
  simp only [Instr.loadAt, resF]
  generalize a.tmps.getD p undef = u at hrun
  cases u with
  | pointer o =>
   cases o with
   | some ad => rfl
   | none => simp [Instr.loadAt, Instr.sureAddr] at hrun
  | _ => simp [Instr.loadAt, Instr.sureAddr] at hrun
theorem Qcr {P : Program} {N : Nat} {base : Bs × Fence} {c : Cx} (hst : St c) {s : AS} {a : Act} (hr : SR N base c s a) : ∀ {rs : List ResultVar} {l : List AV}, rs.mapM (Qr P s) = some l →
  ∃ xs : List Value, (rs.mapM (resF a.tmps)).run P c.w = .ok xs c.w ∧ RelL c l xs.toArray
 | [], l, h => by simp at h; subst h; exact ⟨[], rfl, rfl, fun j a u h => by simp at h⟩
 | rv :: rs, l, h => by
  simp only [List.mapM_cons] at h
  cases h1 : Qr P s rv with
  | none => simp [h1] at h
  | some r =>
   cases h2 : rs.mapM (Qr P s) with
   | none => simp [h1, h2] at h
   | some l' =>
    simp [h1, h2] at h
    subst h
    obtain ⟨x, h3, h4⟩ := Qch hst hr h1
    obtain ⟨xs, h5, h6⟩ := Qcr hst hr h2
    refine ⟨x :: xs, by simp only [List.mapM_cons, Sem.run_bind, h3, Result.andThen_ok, h5, Sem.run_pure], by have := h6.1; simpa using this, fun j a u ha hu => ?_⟩
    cases j with
    | zero => simp at ha hu; subst ha; subst hu; exact h4
    | succ j => exact h6.2 j a u (by simpa using ha) (by simpa using hu)
theorem ZD {P : Program} {N : Nat} {base : Bs × Fence} {c : Cx} (hst : St c) {s : AS} {a : Act} (hr : SR N base c s a) {fn : Func} {r : AV} (h : Ql P s fn.results.toList = some r) : ∃ x, (results fn a.tmps).run P c.w = .ok x c.w ∧ Rel c r x := by
 have hrun : ∀ xs : List Value, (fn.results.toList.mapM (resF a.tmps)).run P c.w = .ok xs c.w →
   (results fn a.tmps).run P c.w = .ok (if h : xs.toArray.size = 1 then xs.toArray[0] else .tuple xs.toArray) c.w := by
  intro xs hx
  rw [Qje, Array.mapM_eq_mapM_toList]
  simp only [Sem.run_bind, Sem.run_map]
  rw [hx]
  rfl
 unfold Ql at h
 split at h
 ·rename_i rv hrs
  obtain ⟨x, h1, h2⟩ := Qch hst hr h
  refine ⟨x, ?_, h2⟩
  rw [hrun [x] (by rw [hrs]; simp only [List.mapM_cons, List.mapM_nil, Sem.run_bind, h1, Result.andThen_ok, Sem.run_pure])]
  rfl
 ·rename_i rs hne
  simp only [Option.map_eq_some_iff] at h
  obtain ⟨l, hl, rfl⟩ := h
  obtain ⟨xs, h1, h2⟩ := Qcr hst hr hl
  refine ⟨.tuple xs.toArray, ?_, .tup l _ h2.1 h2.2⟩
  rw [hrun xs h1]
  have hne1 : ¬ xs.toArray.size = 1 := by
   intro he
   have h3 : l.length = 1 := by have := h2.1; omega
   have h4 : fn.results.toList.length = l.length := by
    clear h1 h2 hrun hne
    generalize fn.results.toList = rs at hl
    induction rs generalizing l with
    | nil => simp at hl; subst hl; rfl
    | cons rv rs ih =>
     simp only [List.mapM_cons] at hl
     cases h5 : Qr P s rv with
     | none => simp [h5] at hl
     | some r =>
      cases h6 : rs.mapM (Qr P s) with
      | none => simp [h5, h6] at hl
      | some l' =>
       simp [h5, h6] at hl
       subst hl
       simp only [QpZ]
       cases l' with
       | nil => cases rs with
        | nil => rfl
        | cons z zs =>
         simp only [List.mapM_cons] at h6
         cases h7 : Qr P s z with
         | none => simp [h7] at h6
         | some q => cases h8 : zs.mapM (Qr P s) with
          | none => simp [h7, h8] at h6
          | some q' => simp [h7, h8] at h6
       | cons z zs => simp at h3
   rw [h3] at h4
   match hq : fn.results.toList with
   | [rv] => exact hne rv hq
   | [] => rw [hq] at h4; simp at h4
   | _ :: _ :: _ => rw [hq] at h4; simp at h4
  rw [dif_neg hne1]
def Qv (args : List AV) : Nat → AV := fun t => args.getD t (.v undef)
def Leaves (h h' : AH) (r : AV) (Q : AV → AH → Prop) : Prop :=
 (∃ m r', h.length ≤ m ∧ m ≤ h'.length ∧ (h'.take m = h ∨ ∀ (i : Nat) b, (h'.take m)[i]? = some b → h[i]? = some b ∨ b.Below m) ∧ Frz h' m r r' ∧ Q r' (h'.take m)) ∨ Q r h'
def QD (P : Program) (rs : List ResultVar) (h : AH) (Q : AOut → AH → Prop) : AExit → AS → Prop
 | .normal, s | .ret, s => ∃ r, Ql P s rs = some r ∧ Leaves h s.h r fun r h' => Q (.ret r) h'
 | .panic x, s => Leaves h s.h x fun r h' => Q (.panic r) h'
 | .exit _, _ => False
theorem Yp {c c' : Cx} {r : AV} {x : Value} {Q : AV → AH → Prop} (hs : St c) (hs' : St c') (hev : Ev c c') (hr : Rel c' r x) (hl : Leaves c.h c'.h r Q) :
  ∃ c2 r', Q r' c2.h ∧ Ev c c2 ∧ St c2 ∧ c2.w = c'.w ∧ Rel c2 r' x := by
 rcases hl with ⟨m, r', h1, h2, h3, h4, h5⟩ | h5
 case inr => exact ⟨c', r, h5, hev, hs', rfl, hr⟩
 refine ⟨c'.cut m, r', h5, hev.cut h1 h2, hs'.cut h2 ?_, rfl, h4.rel hs' h2 hr⟩
 rcases h3 with h3 | h3
 ·intro b hb
  have hb' := hb
  rw [h3] at hb'
  obtain ⟨j, hj⟩ := Zk hb'
  have hm : m = c.h.length := by
   have := congrArg List.length h3
   rw [List.length_take] at this; omega
  rw [hm]
  exact hs.below hj
 ·intro b hb
  obtain ⟨i, hi⟩ := Zk hb
  rcases h3 i b hi with h6 | h6
  ·exact AB.Below.mono (hs.below h6) h1
  ·exact h6
theorem Yw {P : Program} {w : World} {r : Nat} (h : w.heap[r]? = some (.deferred (some []))) : (Instr.takeDeferred r).run P w = .ok [] { w with heap := w.heap.setIfInBounds r (.deferred none) } := by
 simp [Instr.takeDeferred, getObj, setObj, Sem.run, h]
theorem Qai {P : Program} {F : Fence} {n : Nat} {fn : Func} {tmps : Array Value} {R : Ending → World → Prop} {u : FrameMode} (hu : u ≠ .run) {c : Cx} (hs : St c) {base : Nat} : ∀ (Ds : List Nat) (w : World),
  Ds.Nodup → (∀ D ∈ Ds, base ≤ D ∧ w.heap[D]? = some (.deferred (some []))) →
  (∀ w', w'.os = w.os → w'.tape = w.tape → w'.output = w.output → w'.heap.size = w.heap.size → (∀ k, k ∉ Ds → w'.heap[k]? = w.heap[k]?) → LeavesInM F n P fn tmps R [] u w') →
  LeavesInM F n P fn tmps R (Ds.map Qhf) u w
 | [], w, _, _, h => h w rfl rfl rfl rfl fun _ _ => rfl
 | D :: Ds, w, hn, hd, h => by
  have hD := (hd D (by simp)).2
  have hlt := (Array.getElem?_eq_some_iff.1 hD).1
  simp only [Qp1, LeavesInM]
  refine ⟨hu, .inl ⟨D, _, rfl, Yw hD, ?_⟩⟩
  have hnd := List.nodup_cons.1 hn
  have hold : ∀ k, k ≠ D → ({ w with heap := w.heap.setIfInBounds D (.deferred none) } : World).heap[k]? = w.heap[k]? := fun k hk => by
   show (w.heap.setIfInBounds D _)[k]? = _
   rw [Array.getElem?_setIfInBounds_ne (fun e => hk e.symm)]
  refine Qai hu hs (base := base) Ds _ hnd.2 (fun D' hD' => ⟨(hd D' (by simp [hD'])).1, ?_⟩) fun w' h1 h2 h3 h4 h5 => h w' h1 h2 h3 (by simpa using h4) fun k hk => ?_
  ·have hne : D' ≠ D := fun e => hnd.1 (e ▸ hD')
   exact (hold D' hne).trans (hd D' (by simp [hD'])).2
  ·simp only [List.mem_cons, not_or] at hk
   exact (h5 k hk.2).trans (hold k hk.1)
theorem Ev.idle {c0 c : Cx} (hs : St c) (hev : Ev c0 c) {w : World} (h1 : w.os = c.w.os) (h2 : w.tape = c.w.tape) (h3 : w.output = c.w.output) (h4 : w.heap.size = c.w.heap.size)
  (h5 : ∀ k, w.heap[k]? = c.w.heap[k]? ∨ (c0.w.heap.size ≤ k ∧ ¬ c.owns k ∧ ∃ o, c.w.heap[k]? = some (.deferred o))) : Ev c0 (c.to w) := by
 refine ⟨h1.trans hev.os, h2.trans hev.tape, h3.trans hev.output, by show _ ≤ w.heap.size; rw [h4]; exact hev.size, hev.len, fun B hB ho => ?_, fun id b hb => ?_, hev.fresh⟩
 ·rcases h5 B with h | ⟨h, _⟩
  ·exact h.trans (hev.frame B hB ho)
  ·omega
 ·obtain ⟨b', hb', hk⟩ := hev.kin id b hb
  refine ⟨b', hb', ?_⟩
  cases b with
  | cells ty s xs =>
   rcases hk with e0 | ⟨xs', e1, e2, e3⟩
   ·exact .inl e0
   refine .inr ⟨xs', e1, e2, fun B cur hρ hc => ?_⟩
   obtain ⟨cur', h6, h7⟩ := e3 B cur hρ hc
   refine ⟨cur', ?_, h7⟩
   rcases h5 B with h | ⟨_, _, o, h⟩
   ·exact h.trans h6
   ·rw [h6] at h; cases h
  | grow e s n =>
   rcases hk with ⟨e1, e5⟩ | ⟨n', e1, e2, e3, e4, e5⟩
   ·refine .inl ⟨e1, fun B cur hρ hc => ?_⟩
    obtain ⟨cur', fr, h6, h7⟩ := e5 B cur hρ hc
    refine ⟨cur', fr, ?_, h7⟩
    rcases h5 B with h | ⟨_, _, o, h⟩
    ·exact h.trans h6
    ·rw [h6] at h; cases h
   refine .inr ⟨n', e1, e2, e3, e4, fun B cur hρ hc => ?_⟩
   obtain ⟨cur', h6, h7⟩ := e5 B cur hρ hc
   refine ⟨cur', ?_, h7⟩
   rcases h5 B with h | ⟨_, _, o, h⟩
   ·exact h.trans h6
   ·rw [h6] at h; cases h
  | map es => exact hk
  | loop i => exact hk
  | iter s p => exact hk
  | glob g cs ty fr =>
   simp only [Kin] at hk ⊢
   refine ⟨hk.1, hk.2.1, fun B hρ => ?_⟩
   rcases h5 B with h | ⟨_, hno, _⟩
   ·exact h.trans (hk.2.2 B hρ)
   ·exact absurd ⟨id, b', hb', by rw [hk.1]; rfl, hk.2.1.trans hρ⟩ hno
  | dead => exact hk
  | gone => exact hk
theorem Rel.idle {c : Cx} {w : World} (hsz : w.heap.size = c.w.heap.size) (h5 : ∀ (k : Nat) cs t fr, c.w.heap[k]? = some (Obj.cells cs t fr) → w.heap[k]? = c.w.heap[k]?) {a : AV} {x : Value} (h : Rel c a x) : Rel (c.to w) a x := by
 have hcell : ∀ {B o : Nat} {u : Value}, c.cellP B o u → (c.to w).cellP B o u := by
  intro B o u hc
  refine ⟨?_, by show B < w.heap.size; rw [hsz]; exact hc.2.1, hc.2.2⟩
  have h1 := hc.1
  cases hb : c.w.heap[B]? with
  | none => simp [World.cell?, hb] at h1
  | some o' =>
   cases o' with
   | cells cs t fr => exact (World.cell?_of_block (w := c.w) (a := ⟨B, o, none⟩) (h5 B cs t fr hb)).trans h1
   | _ => simp [World.cell?, hb] at h1
 induction h with
 | v x => exact .v x
 | junk x => exact .junk x
 | agg l cs hl _ ih => exact .agg l cs hl ih
 | tup l cs hl _ ih => exact .tup l cs hl ih
 | slnil s own ht => exact .slnil s own ht
 | slzero s own ba ht => exact .slzero s own ba ht
 | sl s xs own B o cap f hs' hcap hmax hc _ ht ih =>
  refine .sl s xs own B o cap f hs' hcap hmax (fun j a hj => ⟨hcell (hc j a hj).1, (hc j a hj).2⟩) ih fun b hb => ⟨(ht b hb).1, fun e s' n hg => ?_⟩
  obtain ⟨h1, h2, h3⟩ := (ht b hb).2 e s' n hg
  refine ⟨h1, h2, fun he => ?_⟩
  obtain ⟨h6, h7, h8, h9, cur, h10, h11⟩ := h3 he
  exact ⟨h6, h7, h8, h9, cur, (h5 B _ _ _ h10).trans h10, h11⟩
 | pin s xs k off B o f hs' hc _ ih => exact .pin s xs k off B o f hs' (fun j a hj => ⟨hcell (hc j a hj).1, (hc j a hj).2⟩) ih
 | ptr id k off x hid ho h1 => exact .ptr id k off x hid ho h1
 | arr id lo len x hid ho h1 =>
  refine .arr id lo len x hid ho fun ty s xs hb => ?_
  obtain ⟨B, cap, h2, h3, h4, h6, cur, h7, h8⟩ := h1 ty s xs hb
  exact ⟨B, cap, h2, h3, h4, h6, cur, (h5 B _ _ _ h7).trans h7, h8⟩
 | row id lo len cap x hid ho h1 =>
  refine .row id lo len cap x hid ho fun ty s xs hb => ?_
  obtain ⟨B, cur, h2, h3, h4, h6, h7, h8⟩ := h1 ty s xs hb
  exact ⟨B, cur, h2, h3, h4, h6, (h5 B _ _ _ h7).trans h7, h8⟩
 | mp id x hid ho h1 => exact .mp id x hid ho h1
 | fn f first cap vs ws e1 e2 _ _ ih1 ih2 => exact .fn f first cap vs ws e1 e2 ih1 ih2
 | ifc t a u _ ih => exact .ifc t a u ih
 | spt s xs own p n k _ ih => exact .spt s xs own p n k ih
theorem St.idle {c : Cx} (hs : St c) {w : World} (hsz : w.heap.size = c.w.heap.size) (h5 : ∀ (k : Nat) (o : Obj), c.w.heap[k]? = some o → (w.heap[k]? = some o ∨ ∃ d, o = Obj.deferred d)) : St (c.to w) := by
 have hc : ∀ (k : Nat) cs t fr, c.w.heap[k]? = some (Obj.cells cs t fr) → w.heap[k]? = c.w.heap[k]? := fun k cs t fr h => by
  rcases h5 k _ h with h' | ⟨d, h'⟩
  ·rw [h, h']
  ·cases h'
 have hm : ∀ (k : Nat) es n, c.w.heap[k]? = some (Obj.map es n) → w.heap[k]? = c.w.heap[k]? := fun k es n h => by
  rcases h5 k _ h with h' | ⟨d, h'⟩
  ·rw [h, h']
  ·cases h'
 refine ⟨fun id b hb => ?_, hs.inj⟩
 have h0 := hs.blocks id b hb
 cases b with
 | cells ty s xs =>
  obtain ⟨B, cur, h1, h2, h3, h4⟩ := h0
  exact ⟨B, cur, h1, (hc B _ _ _ h2).trans h2, h3, fun j a hj => let ⟨u, h6, h7, h8⟩ := h4 j a hj; ⟨u, h6, h7, h8.idle hsz hc⟩⟩
 | grow e s n => exact fun B hB => let ⟨cur, h1, h2⟩ := h0 B hB; ⟨cur, (hc B _ _ _ h1).trans h1, h2⟩
 | map es =>
  obtain ⟨B, ents, clock, h1, h2, h3, h4⟩ := h0
  exact ⟨B, ents, clock, h1, (hm B _ _ h2).trans h2, h3, fun j kv e hj he => ⟨(h4 j kv e hj he).1, (h4 j kv e hj he).2.idle hsz hc⟩⟩
 | loop i =>
  obtain ⟨B, r, h1, h2, h3, h4⟩ := h0
  have hl : w.heap[B]? = c.w.heap[B]? := by
   rcases h5 B _ h2 with h' | ⟨d, h'⟩
   ·rw [h2, h']
   ·cases h'
  exact ⟨B, r, h1, hl.trans h2, h3, fun t => (h4 t).idle hsz hc⟩
 | iter s p =>
  obtain ⟨B, h1, h2⟩ := h0
  refine ⟨B, h1, ?_⟩
  rcases h5 B _ h2 with h' | ⟨d, h'⟩
  ·exact h'
  ·cases h'
 | glob g cs ty fr =>
  obtain ⟨h1, h2⟩ := h0
  exact ⟨h1, (hc g _ _ _ h2).trans h2⟩
 | dead => trivial
 | gone => trivial
theorem ZQ {F : Fence} {n : Nat} {P : Program} {f : FuncId} {args : Array Value} {w : World} {R : Ending → World → Prop} (h : CallsIn F.plain n P f args w R) : CallsIn F n P f args w R := h
theorem Qh {P : Program} {f : FuncId} {fn : Func} {code : Code} {args : List AV} {h : AH} {Q : AOut → AH → Prop} (hf : P.funcs[f]? = some fn) (hb : fn.body = some code)
  (hcall : ∀ vals w, (callFunc f vals).run P w = .ok (.enter f vals) w) {N : Nat} (hN : fn.ntmps = N) {rs : List ResultVar} (hrs : fn.results.toList = rs) (hn : args.length ≤ N) (H : Xz P N code (QD P rs h Q) ⟨Qv args, h⟩) : Xf P f args h Q := by
 subst hN
 subst hrs
 refine ⟨hcall, fun F n c vals hF hs hh hvals => ZQ ?_⟩
 subst hh
 refine callsIn_of_wp_marks hf hb (hF.plain.fn f) ?_
 have hsr : SR fn.ntmps (⟨c.w.heap.size, []⟩, F.plain) c ⟨Qv args, c.h⟩ { tmps := vals ++ Array.replicate (fn.ntmps - vals.size) undef, defers := [] } := by
  refine ⟨rfl, by have := hvals.1; simp; omega, Nat.le_refl _, ⟨[], rfl, List.nodup_nil, fun D h => by cases h⟩, (fun l hl => by cases hl), fun t => ?_⟩
  simp only [Qv]
  rw [Array.getD_eq_getD_getElem?, Array.getElem?_append, List.getD_eq_getElem?_getD]
  have hsz := hvals.1
  by_cases ht : t < vals.size
  ·rw [if_pos ht]
   obtain ⟨u, hu⟩ : ∃ u, vals[t]? = some u := ⟨_, Array.getElem?_eq_getElem ht⟩
   obtain ⟨a, ha⟩ : ∃ a, args[t]? = some a := ⟨_, List.getElem?_eq_getElem (by omega)⟩
   rw [hu, ha]
   exact hvals.2 t a u ha hu
  ·rw [if_neg ht, List.getElem?_eq_none (by omega), Array.getElem?_replicate]
   split
   ·exact .v _
   ·exact .v _
 refine H F.plain n ⟨c.w.heap.size, []⟩ c _ hF.plain hs hsr _ ?_
 intro e s' c' a' e' hQ hev hst hr hex
 -- the end, whichever way
 have fin : ∀ (u : FrameMode), u ≠ .run → (∀ (c2 : Cx), Ev c c2 → St c2 → c2.h = c'.h → (∀ a x, Rel c' a x → Rel c2 a x) → SR fn.ntmps (⟨0, []⟩, F.plain) c2 s' { a' with defers := [] } →
   LeavesInM F.plain n P fn a'.tmps (fun e w' => ∃ o c', Q o c'.h ∧ Ev c c' ∧ St c' ∧ c'.w = w' ∧ EndC c' o e) [] u c2.w) →
   LeavesInM F.plain n P fn a'.tmps (fun e w' => ∃ o c', Q o c'.h ∧ Ev c c' ∧ St c' ∧ c'.w = w' ∧ EndC c' o e) a'.defers u c'.w := by
  intro u hu hfin
  obtain ⟨Ds, e1, hnd, hall⟩ := hr.defers
  rw [e1, List.append_nil]
  refine Qai hu hst (base := c.w.heap.size) Ds c'.w hnd (fun D hD => ⟨(hall D hD).1, (hall D hD).2.1⟩) ?_
  intro w' h1 h2 h3 h4 h5
  have hidle : ∀ k, w'.heap[k]? = c'.w.heap[k]? ∨ (c.w.heap.size ≤ k ∧ ¬ c'.owns k ∧ ∃ o, c'.w.heap[k]? = some (.deferred o)) := by
   intro k
   by_cases hk : k ∈ Ds
   ·exact .inr ⟨(hall k hk).1, (hall k hk).2.2, _, (hall k hk).2.1⟩
   ·exact .inl (h5 k hk)
  have hcells : ∀ (k : Nat) cs t fr, c'.w.heap[k]? = some (Obj.cells cs t fr) → w'.heap[k]? = c'.w.heap[k]? := fun k cs t fr hk => by
   rcases hidle k with h | ⟨_, _, o, h⟩
   ·exact h
   ·rw [hk] at h; cases h
  have hst2 : St (c'.to w') := hst.idle h4 fun k o hk => by
   rcases hidle k with h | ⟨_, _, d, h⟩
   ·exact .inl (h.trans hk)
   ·rw [hk] at h; cases h; exact .inr ⟨d, rfl⟩
  have hrel : ∀ a x, Rel c' a x → Rel (c'.to w') a x := fun a x hax => hax.idle h4 hcells
  exact hfin (c'.to w') (Ev.idle hst hev h1 h2 h3 h4 hidle) hst2 rfl hrel ⟨hr.h, hr.size, Nat.zero_le _, ⟨[], rfl, List.nodup_nil, fun D h => by cases h⟩, (fun l hl => by cases hl), fun t => hrel _ _ (hr.tm t)⟩
 cases e with
 | normal =>
  cases hex
  obtain ⟨r, hres, hl⟩ := hQ
  refine fin .returning (by simp) fun c2 hev2 hst2 hh2 hrel2 hsr2 => ?_
  obtain ⟨x, hrun, hx⟩ := ZD hst2 hsr2 hres
  rw [← hr.h, ← hh2] at hl
  obtain ⟨c3, r', h1, h2, h3, h4, h5⟩ := Yp hs hst2 hev2 hx hl
  exact ⟨x, hrun, .ret r', c3, h1, h2, h3, h4, x, rfl, h5⟩
 | ret =>
  cases hex
  obtain ⟨r, hres, hl⟩ := hQ
  refine fin .returning (by simp) fun c2 hev2 hst2 hh2 hrel2 hsr2 => ?_
  obtain ⟨x, hrun, hx⟩ := ZD hst2 hsr2 hres
  rw [← hr.h, ← hh2] at hl
  obtain ⟨c3, r', h1, h2, h3, h4, h5⟩ := Yp hs hst2 hev2 hx hl
  exact ⟨x, hrun, .ret r', c3, h1, h2, h3, h4, x, rfl, h5⟩
 | panic av =>
  obtain ⟨x, rfl, hx⟩ := hex
  refine fin (.panicking [{ v := x, recovered := false }]) (by simp) fun c2 hev2 hst2 hh2 hrel2 hsr2 => ?_
  have hl : Leaves c.h s'.h av fun r h' => Q (.panic r) h' := hQ
  rw [← hr.h, ← hh2] at hl
  obtain ⟨c3, r', h1, h2, h3, h4, h5⟩ := Yp hs hst2 hev2 (hrel2 _ _ hx) hl
  exact ⟨.panic r', c3, h1, h2, h3, h4, x, rfl, h5⟩
 | exit id => exact hQ.elim
end Go.Proofs.YtniljpjjnmkoaaaGreatDoor.Ab
namespace Go.Proofs.YtniljpjjnmkoaaaGreatDoor.Ab
theorem hget (h l : AH) (k : Nat) : (h ++ l)[h.length + k]? = l[k]? := by
 rw [List.getElem?_append_right (by omega)]; congr 1; omega
theorem Qfz (h l : AH) : (h ++ l)[h.length]? = l[0]? := hget h l 0
theorem hset (h l : AH) (k : Nat) (b : AB) : (h ++ l).set (h.length + k) b = h ++ l.set k b := by
 rw [List.set_append_right _ _ (by omega)]; congr 2; omega
theorem Qjx (h l : AH) (b : AB) : (h ++ l).set h.length b = h ++ l.set 0 b := hset h l 0 b
theorem hext {h : AH} {i : Nat} {b : AB} (hb : h[i]? = some b) (l : AH) : (h ++ l)[i]? = some b := by
 rw [List.getElem?_append_left (QF hb)]; exact hb
theorem hlen (h l : AH) : (h ++ l).length = h.length + l.length := List.length_append
theorem happ (h l m : AH) : (h ++ l) ++ m = h ++ (l ++ m) := List.append_assoc h l m
theorem htake (h l : AH) : (h ++ l).take h.length = h := List.take_left
theorem Qkl (l : List AV) : (AV.agg l).cells = l := rfl
theorem Qnz (x : Value) : (AV.v x).cells = [.v x] := rfl
theorem QmK (s : Nat) (xs : List AV) (o : Option Nat) : (AV.sl s xs o).cells = [.sl s xs o] := rfl
theorem QjW (s : Nat) (xs : List AV) (k o : Nat) : (AV.pin s xs k o).cells = [.pin s xs k o] := rfl
theorem Qko (i k o : Nat) : (AV.ptr i k o).cells = [.ptr i k o] := rfl
theorem QjZ (i k o : Nat) : (AV.arr i k o).cells = [.arr i k o] := rfl
theorem Ql6 (i : Nat) : (AV.mp i).cells = [.mp i] := rfl
theorem Qmq (f : Fn) (a b : List AV) : (AV.fn f a b).cells = [.fn f a b] := rfl
theorem Qj6 (t : TypeId) (x : AV) : (AV.ifc t x).cells = [.ifc t x] := rfl
theorem Qlk (l : List AV) : (AV.agg l).isAgg = true := rfl
theorem QnI (x : Value) : (AV.v x).isAgg = false := rfl
theorem QlM (s : Nat) (xs : List AV) (o : Option Nat) : (AV.sl s xs o).isAgg = false := rfl
theorem Qlw (s : Nat) (xs : List AV) (k o : Nat) : (AV.pin s xs k o).isAgg = false := rfl
theorem QjQ (i k o : Nat) : (AV.ptr i k o).isAgg = false := rfl
theorem QjL (i k o : Nat) : (AV.arr i k o).isAgg = false := rfl
theorem QlL (i : Nat) : (AV.mp i).isAgg = false := rfl
theorem QmV (f : Fn) (a b : List AV) : (AV.fn f a b).isAgg = false := rfl
theorem QjT (t : TypeId) (x : AV) : (AV.ifc t x).isAgg = false := rfl
theorem QkF (k : IntKind) (n : Int) : (AV.v (.int k n)).cell1 = true := rfl
theorem Qjf (b : Bool) : (AV.v (.bool b)).cell1 = true := rfl
theorem QlH (b : ByteArray) : (AV.v (.string b)).cell1 = true := rfl
theorem Qhx (a : Option Addr) (m n : Nat) : (AV.v (.slice a m n)).cell1 = true := rfl
theorem Qlv (a : Option Nat) : (AV.v (.map a)).cell1 = true := rfl
theorem QfJ (a : Option Addr) : (AV.v (.pointer a)).cell1 = true := rfl
theorem QfB : (AV.v .nilFunc).cell1 = true := rfl
theorem QdU : (AV.v .nilIface).cell1 = true := rfl
theorem Qmz (s : Nat) (xs : List AV) (o : Option Nat) : (AV.sl s xs o).cell1 = true := rfl
theorem QkQ (s : Nat) (xs : List AV) (k o : Nat) : (AV.pin s xs k o).cell1 = true := rfl
theorem Qkr (i k o : Nat) : (AV.ptr i k o).cell1 = true := rfl
theorem QjI (i k o : Nat) : (AV.arr i k o).cell1 = true := rfl
theorem Qmi (i : Nat) : (AV.mp i).cell1 = true := rfl
theorem QlZ (f : Fn) (a b : List AV) : (AV.fn f a b).cell1 = true := rfl
theorem QjY (t : TypeId) (x : AV) : (AV.ifc t x).cell1 = true := rfl
theorem QeV (k : IntKind) (n : Int) : AV.ofV (.int k n) = .v (.int k n) := rfl
theorem Xq (b : Bool) : AV.ofV (.bool b) = .v (.bool b) := rfl
theorem Qnm (b : ByteArray) : AV.ofV (.string b) = .v (.string b) := rfl
theorem Qgc (a : Option Addr) (m n : Nat) : AV.ofV (.slice a m n) = .v (.slice a m n) := rfl
theorem Qns (a : Option Nat) : AV.ofV (.map a) = .v (.map a) := rfl
theorem QhF (a : Option Addr) : AV.ofV (.pointer a) = .v (.pointer a) := rfl
theorem Qhy : AV.ofV .nilFunc = .v .nilFunc := rfl
theorem QgP : AV.ofV .nilIface = .v .nilIface := rfl
theorem Qm8 (cs : Array Value) : AV.ofV (.agg cs) = .agg (cs.toList.map .v) := rfl
section
variable (P : Program) (t : TypeId) (xo yo : Operand) (k : IntKind) (a b : Int)
theorem QnZ : pv P (do eqGuard .eql t xo yo (.int k a) (.int k b); binOp .eql t (.int k a) (.int k b)) = some (.bool (a == b)) := by cases k <;> rfl
theorem QnQ : pv P (do eqGuard .neq t xo yo (.int k a) (.int k b); binOp .neq t (.int k a) (.int k b)) = some (.bool (a != b)) := by cases k <;> rfl
theorem QoB : pv P (do eqGuard .lss t xo yo (.int k a) (.int k b); binOp .lss t (.int k a) (.int k b)) = some (.bool (a < b)) := by cases k <;> rfl
theorem QnU : pv P (do eqGuard .leq t xo yo (.int k a) (.int k b); binOp .leq t (.int k a) (.int k b)) = some (.bool (a ≤ b)) := by cases k <;> rfl
theorem QnM : pv P (do eqGuard .gtr t xo yo (.int k a) (.int k b); binOp .gtr t (.int k a) (.int k b)) = some (.bool (a > b)) := by cases k <;> rfl
theorem Qow : pv P (do eqGuard .geq t xo yo (.int k a) (.int k b); binOp .geq t (.int k a) (.int k b)) = some (.bool (a ≥ b)) := by cases k <;> rfl
theorem Qoe : pv P (do eqGuard .add t xo yo (.int k a) (.int k b); binOp .add t (.int k a) (.int k b)) = some (.int k (k.wrap (a + b))) := by cases k <;> rfl
theorem Qoh : pv P (do eqGuard .sub t xo yo (.int k a) (.int k b); binOp .sub t (.int k a) (.int k b)) = some (.int k (k.wrap (a - b))) := by cases k <;> rfl
theorem QnR : pv P (do eqGuard .mul t xo yo (.int k a) (.int k b); binOp .mul t (.int k a) (.int k b)) = some (.int k (k.wrap (a * b))) := by cases k <;> rfl
theorem Qof (x : Bool) : pv P (Op.unary .not (.bool x)) = some (.bool !x) := rfl
theorem QoA : pv P (Op.unary .neg (.int k a)) = some (.int k (k.wrap (0 - a))) := by cases k <;> rfl
theorem Qok (ty : TypeId) (ts : Array TypeId) : pv P (Builtin.max_ ts ty #[.int k a, .int k b]) = some (.int k (if b > a then b else a)) := by cases k <;> rfl
theorem Qog (ty : TypeId) (ts : Array TypeId) : pv P (Builtin.min_ ts ty #[.int k a, .int k b]) = some (.int k (if b < a then b else a)) := by cases k <;> rfl
end
theorem Ya {α β : Type} (P : Program) : ∀ (x : Sem α) (f : α → Sem β), pv P (x >>= f) = (pv P x).bind fun a => pv P (f a)
 | .pure a, f => rfl
 | .program k, f => Ya P (k P) f
 | .mark m k, f => Ya P k f
 | .load _ _ _, f | .store _ _ _ _, f | .new _ _, f | .shape _ _, f | .freeze _ _ _, f | .frozen _ _, f | .getObj _ _, f | .setObj _ _ _, f | .choose _ _, f | .sys _ _, f | .halt _, f => rfl
theorem Qfu (P : Program) (t : TypeId) (ht : P.underlying t = some .bool) (a b : Bool) : pv P (Op.equal t (.bool a) (.bool b)) = some (a == b) := by
 have h : ∀ n, pv P (Op.equalIn (n + 1) t (.bool a) (.bool b)) = some (a == b) := by
  intro n
  simp only [Op.equalIn, underlying]
  rw [Ya, Ya]
  simp only [program, pv, QpR, ht]
  rfl
 exact h 9999
theorem Qni (P : Program) (t : TypeId) (xo yo : Operand) (ht : P.underlying t = some .bool) (a b : Bool) : pv P (do eqGuard .eql t xo yo (.bool a) (.bool b); binOp .eql t (.bool a) (.bool b)) = some (.bool (a == b)) := by
 have h1 : pv P (binOp .eql t (.bool a) (.bool b)) = some (.bool (a == b)) := by
  show pv P (do let r ← Op.equal t (.bool a) (.bool b); pure (Value.bool r)) = _
  rw [Ya, Qfu P t ht]; rfl
 rw [Ya]
 show (some ()).bind _ = _
 exact h1
theorem Qng (P : Program) (t : TypeId) (xo yo : Operand) (a b : ByteArray) : pv P (do eqGuard .eql t xo yo (.string a) (.string b); binOp .eql t (.string a) (.string b)) = some (.bool (a.toList == b.toList)) := rfl
theorem Qnn (P : Program) (t : TypeId) (xo yo : Operand) (a b : ByteArray) : pv P (do eqGuard .neq t xo yo (.string a) (.string b); binOp .neq t (.string a) (.string b)) = some (.bool !(a.toList == b.toList)) := rfl
theorem Qnw (P : Program) (t : TypeId) (xo yo : Operand) (a b : ByteArray) : pv P (do eqGuard .lss t xo yo (.string a) (.string b); binOp .lss t (.string a) (.string b)) = some (.bool (Op.bytesLess a.toList b.toList)) := rfl
theorem Qm6 (P : Program) (t : TypeId) (xo yo : Operand) (a b : ByteArray) : pv P (do eqGuard .gtr t xo yo (.string a) (.string b); binOp .gtr t (.string a) (.string b)) = some (.bool !(Op.bytesLess a.toList b.toList || a.toList == b.toList)) := rfl
theorem QbI (P : Program) (t ty : TypeId) (ht : P.underlying t = some .string) (s : ByteArray) : pv P (Builtin.len_ #[t] ty #[.string s]) = some (goInt s.size) := by
 simp only [Builtin.len_, QpP, QpM, underlying, program, Bind.bind, Sem.bind, pv, ht]
 rfl
theorem Ym (K : AS → Prop) (Q : AExit → AS → Prop) (s : AS) : AExit.then K Q .normal s = K s := rfl
theorem QgQ (i : Nat) (Q : AExit → AS → Prop) (s : AS) : AExit.inBlock i Q .normal s = Q .normal s := rfl
theorem QeM (i j : Nat) (Q : AExit → AS → Prop) (s : AS) : AExit.inBlock i Q (.exit j) s = if j = i then Q .normal s else Q (.exit j) s := rfl
end Go.Proofs.YtniljpjjnmkoaaaGreatDoor.Ab
namespace Go.Proofs.YtniljpjjnmkoaaaGreatDoor.Ab
theorem Q6 (N : Nat) (tm : Nat → AV) (h : AH) (d : Nat) (x : AV) (hd : d < N) : AS.put N ⟨tm, h⟩ (some d) x = ⟨upd tm d x, h⟩ := if_pos hd
theorem Q4 (P : Program) (N : Nat) (ops : Array Oper) (K : AS → Prop) (E : AV → AS → Prop) (tm : Nat → AV) (h : AH) : OpsW P N ops [] K E ⟨tm, h⟩ = K ⟨tm, h⟩ := rfl
theorem Q2 (P : Program) (N : Nat) (ops : Array Oper) (o : Oper) (l : List Oper) (K : AS → Prop) (E : AV → AS → Prop) (tm : Nat → AV) (h : AH) : OpsW P N ops (o :: l) K E ⟨tm, h⟩ = (match Qf ops tm o with | some true => OpW P N o ⟨tm, h⟩ (OpsW P N ops l K E) E | some false => OpsW P N ops l K E (AS.put N ⟨tm, h⟩ o.dst (.v undef)) | none => False) := rfl
theorem QmB (N : Nat) (tm : Nat → AV) (h : AH) (x : AV) : AS.put N ⟨tm, h⟩ none x = ⟨tm, h⟩ := rfl
theorem Qer (f : Nat → AV) (d t : Nat) (x : AV) : upd f d x t = if t = d then x else f t := rfl
theorem Qn6 (tm : Nat → AV) (h : AH) (t : Nat) : AS.ev ⟨tm, h⟩ (.tmp t) = tm t := rfl
theorem Ql5 (tm : Nat → AV) (h : AH) (v : Value) : AS.ev ⟨tm, h⟩ (.const v) = AV.ofV v := rfl
theorem QnJ (tm : Nat → AV) (h : AH) (f : FuncId) : AS.ev ⟨tm, h⟩ (.func f) = .fn (.func f) [] [] := rfl
end Go.Proofs.YtniljpjjnmkoaaaGreatDoor.Ab
namespace Go.Proofs.YtniljpjjnmkoaaaGreatDoor.Ab
theorem Qk {P : Program} {N : Nat} {Q : AExit → AS → Prop} {s : AS} {id : Nat} {ops : Array Oper}
  (H : ∀ (K : AS → Prop) (E : AV → AS → Prop), (∀ s, Q .normal s → K s) → (∀ r s, Q (.panic r) s → E r s) → OpsW P N ops ops.toList K E s) : Xz P N (.region id ops false) Q s :=
 Qb9 (H _ _ (fun _ h => h) (fun _ _ h => h))
theorem Qa {P : Program} {N : Nat} {Q : AExit → AS → Prop} {s : AS} {id : Nat} {ops : Array Oper} {y : Code}
  (H : ∀ (K : AS → Prop) (E : AV → AS → Prop), (∀ s, Xz P N y Q s → K s) → (∀ r s, Q (.panic r) s → E r s) → OpsW P N ops ops.toList K E s) : Xz P N (.seq (.region id ops false) y) Q s :=
 Qbg (Qb9 (H _ _ (fun _ h => h) (fun _ _ h => h)))
theorem Qb {K : AS → Prop} {Q : AExit → AS → Prop} {s : AS} (h : K s) : AExit.then K Q .normal s := h
theorem Qq {K : AS → Prop} {Q : AExit → AS → Prop} {s : AS} (h : Q .ret s) : AExit.then K Q .ret s := h
theorem Qw {K : AS → Prop} {Q : AExit → AS → Prop} {s : AS} {i : Nat} (h : Q (.exit i) s) : AExit.then K Q (.exit i) s := h
theorem Qo {i : Nat} {Q : AExit → AS → Prop} {s : AS} (h : Q .normal s) : AExit.inBlock i Q .normal s := h
theorem Qs {i : Nat} {Q : AExit → AS → Prop} {s : AS} (h : Q .ret s) : AExit.inBlock i Q .ret s := h
theorem Qy {i : Nat} {Q : AExit → AS → Prop} {s : AS} (h : Q .normal s) : AExit.inBlock i Q (.exit i) s := by
 rw [QeM, if_pos rfl]; exact h
theorem QU {i j : Nat} {Q : AExit → AS → Prop} {s : AS} (hj : (j == i) = false) (h : Q (.exit j) s) : AExit.inBlock i Q (.exit j) s := by
 rw [QeM, if_neg (by simpa using hj)]; exact h
end Go.Proofs.YtniljpjjnmkoaaaGreatDoor.Ab
set_option linter.unusedSectionVars false
namespace Go.Proofs.YtniljpjjnmkoaaaGreatDoor.Ab
def Keep (h h' : AH) : Prop := ∀ (id : Nat) (b : AB), h[id]? = some b → (∀ e s n, b ≠ .grow e s n) → h'[id]? = some b
theorem Keep.refl (h : AH) : Keep h h := fun _ _ h _ => h
theorem Keep.trans {a b c : AH} (h : Keep a b) (k : Keep b c) : Keep a c := fun id x hx hn => k id x (h id x hx hn) hn
theorem Keep.nil (h : AH) : Keep [] h := fun id b hb => by simp at hb
theorem Keep.app (h l : AH) : Keep h (h ++ l) := fun id b hb _ => hext hb l
theorem Keep.QpE {h : AH} {i : Nat} {e s n : Nat} (hi : h[i]? = some (.grow e s n)) (b : AB) : Keep h (h.set i b) := fun id x hx hn => by
  have hne : i ≠ id := fun e' => by subst e'; rw [hi] at hx; cases hx; exact hn _ _ _ rfl
  rw [List.getElem?_set_ne hne]; exact hx
def Z7 : Op → Bool
  | .move _ | .assign _ | .pick .. | .build .. | .load .. | .binOp .. | .unOp .. | .convert .. | .makeFunc .. | .makeInterface .. | .fieldAddr .. | .field .. | .indexAddr .. | .index .. | .lookup .. | .extract .. | .nilCheck _ | .typeAssert .. => true
  | .buildSlice _ n _ => n != 0
  | .slice _ _ _ _ m => m.isNone
  | .call c => match c.callee with
    | .builtin .len | .builtin .min | .builtin .max | .builtin .unsafeSliceData => true
    | _ => false
  | _ => false
def QbQ : Op → Bool
  | .alloc _ | .box .. | .buildSlice .. | .makeMap .. | .makeSlice .. => true
  | .slice _ _ _ _ m => m.isSome
  | .call c => match c.callee with
    | .builtin .append => true
    | _ => false
  | _ => false
theorem X5 {α : Type} {x : Option α} {h h1 : AH} {r : α} (e : x.map (·, h) = some (r, h1)) : x = some r ∧ h1 = h := by
  cases x <;> simp at e
  exact ⟨by rw [e.1], e.2.symm⟩
theorem XU {h h' : AH} (k : Keep h h') {id : Nat} {t s : Nat} {xs : List AV} (e : h[id]? = some (.cells t s xs)) : h'[id]? = some (.cells t s xs) := k id _ e (fun _ _ _ h => by cases h)
theorem get_map {h h' : AH} (k : Keep h h') {id : Nat} {es : List (Value × AV)} (e : h[id]? = some (.map es)) : h'[id]? = some (.map es) := k id _ e (fun _ _ _ h => by cases h)
section
variable {P : Program} {h h' : AH} (k : Keep h h')
include k
theorem Qi2 {t : TypeId} {x r : AV} (e : QA P t x h = some r) : QA P t x h' = some r := by
  unfold QA at e ⊢
  cases x <;> simp only at e ⊢ <;> try exact e
  split at e
  · rename_i hb; rw [XU k hb]; exact e
  · cases e
theorem QdI {t : TypeId} {x r : AV} {i : Nat} (e : Qm P t x i h = some r) : Qm P t x i h' = some r := by
  unfold Qm at e ⊢
  cases hf : fieldInfo P t i with
  | none => simp [hf] at e
  | some p =>
    simp only [hf] at e ⊢
    cases x <;> simp only at e ⊢ <;> try exact e
    split at e
    · rename_i hb; rw [XU k hb]; exact e
    · cases e
theorem QcZ {t : TypeId} {x i r : AV} (e : Qt P t x i h = some r) : Qt P t x i h' = some r := by
  unfold Qt at e ⊢
  cases hf : Q5 P t with
  | none => simp [hf] at e
  | some p =>
    simp only [hf] at e ⊢
    split at e
    · cases x <;> simp only at e ⊢ <;> try exact e
      split at e
      · rename_i hb; rw [XU k hb]; exact e
      · cases e
    · cases e
theorem Qj4 {t ty : TypeId} {x r : AV} (e : aLen P t ty x h = some r) : aLen P t ty x h' = some r := by
  unfold aLen at e ⊢
  cases x <;> simp only at e ⊢ <;> try exact e
  · split at e
    · rename_i hu hb; rw [hu, XU k hb]; exact e
    · cases e
  · split at e
    · rename_i hu hb; rw [hu, XU k hb]; exact e
    · cases e
  · split at e
    · rename_i hu hb; rw [hu, get_map k hb]; exact e
    · cases e
theorem Qjm {n : Nat} {x : AV} {ys : List AV} (e : XS n h x = some ys) : XS n h' x = some ys := by
  unfold XS at e ⊢
  split at e <;> try exact e
  · split at e
    · rename_i hb; rw [XU k hb]; exact e
    · cases e
  · split at e
    · rename_i hb; rw [XU k hb]; exact e
    · cases e
theorem QhY {s d : TypeId} {x r : AV} (e : QeN P s d x h = some r) : QeN P s d x h' = some r := by
  unfold QeN at e ⊢
  split at e
  · rename_i hb hs
    rw [hb, Qjm k hs]
    exact e
  · cases e
theorem Qh6 {t : TypeId} {x r : AV} {lo hi : Option AV} (e : Z6 P t x lo hi h = some r) : Z6 P t x lo hi h' = some r := by
  unfold Z6 at e ⊢
  cases hf : Q5 P t with
  | none => simp only [hf] at e ⊢; exact e
  | some p =>
    simp only [hf] at e ⊢
    split at e <;> try exact e
    · split at e
      · rename_i hb; rw [XU k hb]; exact e
      · cases e
    · split at e
      · rename_i hb; rw [XU k hb]; exact e
      · cases e
theorem Qc0 {t : TypeId} {x : AV} {b : Value} (e : notNil P t h x b = true) : notNil P t h' x b = true := by
  unfold notNil at e ⊢
  split at e <;> first
    | exact e
    | (split at e
       · rename_i hu hb
         first
           | rw [hu, XU k hb]
           | rw [hu, get_map k hb]
       · cases e)
    | cases e
theorem QhZ {op : BinOp} {t : TypeId} {x y r : AV} (e : Qdg P op t x y h = some r) : Qdg P op t x y h' = some r := by
  unfold Qdg at e ⊢
  split at e
  · split at e
    · rename_i hu hb
      rw [hu, XU k hb]
      exact e
    · cases e
  · cases e
theorem QfZ {s d : TypeId} {id kk off : Nat} {r : AV} (e : Zm P s d id kk off h = some r) : Zm P s d id kk off h' = some r := by
  unfold Zm at e ⊢
  split at e
  · rename_i hb
    rw [XU k hb]
    exact e
  · cases e
theorem Qe2 {x : AV} (e : QS h x = true) : QS h' x = true := by
  cases x <;> simp only [QS] at e ⊢ <;> try exact e
  split at e
  · rename_i hb; rw [XU k hb]
  · cases e
theorem Qk8 {op : BinOp} {t : TypeId} {xo yo : Operand} {x y r : AV} (e : aBin P op t xo yo x y h = some r) : aBin P op t xo yo x y h' = some r := by
  unfold aBin at e ⊢
  split at e
  · exact e
  · rename_i b hnv
    split at e
    · split at e
      · rename_i hn; rw [Qc0 k hn]; simpa using e
      · cases e
    · split at e
      · rename_i hn; rw [Qc0 k hn]; simpa using e
      · cases e
    · cases e
  · exact QhZ k e
  · cases e
theorem Qgr {t : TypeId} {x y r : AV} {ok : Bool} (e : Yf P t x y ok h = some r) : Yf P t x y ok h' = some r := by
  unfold Yf at e ⊢
  cases hf : Zn P t with
  | none => simp [hf] at e
  | some p =>
    simp only [hf] at e ⊢
    cases y with
    | v kv =>
      simp only at e ⊢
      cases x with
      | mp id =>
        simp only at e ⊢
        cases hb : h[id]? with
        | none => simp [hb] at e
        | some b =>
          cases b with
          | map es => rw [get_map k hb]; rw [hb] at e; exact e
          | _ => simp [hb] at e
      | v x => cases x with
        | map r => cases r <;> exact e
        | _ => exact e
      | _ => exact e
    | _ => exact e
theorem Qcx {t : TypeId} {n : Nat} (hn : (n != 0) = true) {parts : List (Nat × AV)} {r : AV} {h1 : AH} (e : QM P t n parts h = some (r, h1)) : h1 = h ∧ QM P t n parts h' = some (r, h') := by
  unfold QM at e ⊢
  have hn' : n ≠ 0 := by simpa using hn
  cases hf : Q5 P t with
  | none => simp [hf] at e
  | some p =>
    simp only [hf, if_neg hn'] at e ⊢
    split at e
    · rename_i hc; rw [if_pos hc]; cases e; exact ⟨rfl, rfl⟩
    · cases e
theorem QfK {ev : Operand → AV} {ty : TypeId} {op : Op} (hl : Z7 op = true) {r : AV} {h1 : AH} (e : aop P ev ty h op = some (r, h1)) : h1 = h ∧ aop P ev ty h' op = some (r, h') := by
  cases op with
  | move x => simp only [aop] at e ⊢; cases e; exact ⟨rfl, rfl⟩
  | assign x => simp only [aop] at e ⊢; cases e; exact ⟨rfl, rfl⟩
  | pick c a b =>
    simp only [aop] at e ⊢
    split at e
    · cases e; exact ⟨rfl, rfl⟩
    · cases e
  | build t parts => simp only [aop] at e ⊢; obtain ⟨e1, e2⟩ := X5 e; rw [e1]; exact ⟨e2, rfl⟩
  | buildSlice t n parts => simp only [aop] at e ⊢; exact Qcx k hl e
  | load t a => simp only [aop] at e ⊢; obtain ⟨e1, e2⟩ := X5 e; rw [Qi2 k e1]; exact ⟨e2, rfl⟩
  | binOp b t x y t2 => simp only [aop] at e ⊢; obtain ⟨e1, e2⟩ := X5 e; rw [Qk8 k e1]; exact ⟨e2, rfl⟩
  | unOp b t x =>
    simp only [aop] at e ⊢
    split at e
    · obtain ⟨z, e1, e2⟩ := Option.map_eq_some_iff.1 e; cases e2; rw [e1]; exact ⟨rfl, rfl⟩
    · cases e
  | convert s d x =>
    simp only [aop] at e ⊢
    split at e
    · obtain ⟨z, e1, e2⟩ := Option.map_eq_some_iff.1 e; cases e2; rw [e1]; exact ⟨rfl, rfl⟩
    · obtain ⟨e1, e2⟩ := X5 e; rw [QfZ k e1]; exact ⟨e2, rfl⟩
    · obtain ⟨e1, e2⟩ := X5 e; rw [QhY k e1]; exact ⟨e2, rfl⟩
  | nilCheck x =>
    simp only [aop] at e ⊢
    split at e
    · rename_i hn; rw [Qe2 k hn]; cases e; exact ⟨rfl, rfl⟩
    · cases e
  | typeAssert x xt t ok => simp only [aop] at e ⊢; obtain ⟨e1, e2⟩ := X5 e; rw [e1]; exact ⟨e2, rfl⟩
  | makeFunc f a b => simp only [aop] at e ⊢; cases e; exact ⟨rfl, rfl⟩
  | makeInterface t x =>
    simp only [aop] at e ⊢
    split at e
    · cases e
    · cases e; exact ⟨rfl, rfl⟩
    · cases e
  | slice t x lo hi mx =>
    simp only [aop] at e ⊢
    cases mx with
    | none => simp only at e ⊢; obtain ⟨e1, e2⟩ := X5 e; rw [Qh6 k e1]; exact ⟨e2, rfl⟩
    | some m => simp [Z7] at hl
  | fieldAddr t x i => simp only [aop] at e ⊢; obtain ⟨e1, e2⟩ := X5 e; rw [QdI k e1]; exact ⟨e2, rfl⟩
  | field t x i => simp only [aop] at e ⊢; obtain ⟨e1, e2⟩ := X5 e; rw [e1]; exact ⟨e2, rfl⟩
  | indexAddr t x i => simp only [aop] at e ⊢; obtain ⟨e1, e2⟩ := X5 e; rw [QcZ k e1]; exact ⟨e2, rfl⟩
  | index t x i =>
    simp only [aop] at e ⊢
    split at e
    · obtain ⟨z, e1, e2⟩ := Option.map_eq_some_iff.1 e; cases e2; rw [e1]; exact ⟨rfl, rfl⟩
    · cases e
  | lookup t x y ok => simp only [aop] at e ⊢; obtain ⟨e1, e2⟩ := X5 e; rw [Qgr k e1]; exact ⟨e2, rfl⟩
  | extract t i => simp only [aop] at e ⊢; obtain ⟨e1, e2⟩ := X5 e; rw [e1]; exact ⟨e2, rfl⟩
  | call c =>
    obtain ⟨cal, args, tys⟩ := c
    cases cal with
    | builtin b =>
      cases b with
      | len =>
        simp only [aop] at e ⊢
        split at e
        · obtain ⟨e1, e2⟩ := X5 e; rw [Qj4 k e1]; exact ⟨e2, rfl⟩
        · cases e
      | min =>
        simp only [aop] at e ⊢
        split at e
        · obtain ⟨z, e1, e2⟩ := Option.map_eq_some_iff.1 e; cases e2; rw [e1]; exact ⟨rfl, rfl⟩
        · cases e
      | max =>
        simp only [aop] at e ⊢
        split at e
        · obtain ⟨z, e1, e2⟩ := Option.map_eq_some_iff.1 e; cases e2; rw [e1]; exact ⟨rfl, rfl⟩
        · cases e
      | unsafeSliceData =>
        simp only [aop] at e ⊢
        split at e
        · obtain ⟨e1, e2⟩ := X5 e; rw [e1]; exact ⟨e2, rfl⟩
        · cases e
      | _ => simp [Z7] at hl
    | _ => simp [Z7] at hl
  | _ => simp [Z7] at hl
end
theorem Qmc {P : Program} {h : AH} {ev : Operand → AV} {ty : TypeId} {op : Op} (hl : QbQ op = true) {r : AV} {h1 : AH} (e : aop P ev ty h op = some (r, h1)) : Keep h h1 := by
  cases op with
  | alloc t =>
    simp only [aop] at e
    split at e
    · split at e
      · cases e; exact Keep.app _ _
      · cases e
    · cases e
  | box t x =>
    simp only [aop] at e
    split at e
    · cases e; exact Keep.app _ _
    · cases e
  | buildSlice t n parts =>
    simp only [aop, QM] at e
    split at e
    · split at e
      · split at e
        · cases e; exact Keep.app _ _
        · cases e; exact Keep.refl _
      · cases e
    · cases e
  | slice t x lo hi mx =>
    cases mx with
    | none => simp [QbQ] at hl
    | some m =>
      simp only [aop, QfH] at e
      split at e
      · split at e
        · cases e; exact Keep.app _ _
        · cases e
      · cases e
  | makeSlice t l n =>
    simp only [aop] at e
    split at e
    · rename_i x hm
      cases e
      unfold Qga at hm
      repeat' split at hm
      all_goals first
        | (cases hm; exact Keep.app _ _)
        | cases hm
    · unfold QeA at e
      repeat' split at e
      all_goals first
        | (cases e; exact Keep.app _ _)
        | cases e
  | makeMap t r =>
    simp only [aop] at e
    split at e
    · cases e; exact Keep.app _ _
    · split at e
      · cases e; exact Keep.app _ _
      · cases e
    · cases e
  | call c =>
    obtain ⟨cal, args, tys⟩ := c
    cases cal with
    | builtin b =>
      cases b with
      | append =>
        simp only [aop] at e
        split at e
        · unfold Xr at e
          split at e
          · split at e
            · split at e
              · split at e
                · cases e; exact Keep.app _ _
                · cases e
              · split at e
                · rename_i hb
                  split at e
                  · cases e; exact Keep.QpE hb _
                  · cases e
                · split at e
                  · split at e
                    · cases e; exact Keep.refl _
                    · cases e; exact Keep.app _ _
                  · cases e
                · cases e
              · cases e
            · cases e
          · cases e
        · cases e
      | _ => simp [QbQ] at hl
    | _ => simp [QbQ] at hl
  | _ => simp [QbQ] at hl
def QfL : Op → Bool
  | .store .. | .mapUpdate .. | .insert .. => true
  | .call c => match c.callee with
    | .builtin .copy | .builtin .unsafeString => true
    | _ => false
  | _ => false
theorem Qkh {P : Program} {h : AH} {ev ev' : Operand → AV} {ty : TypeId} {op : Op} (he : ∀ x ∈ op.operands, ev x = ev' x) (hl : (Z7 op || QbQ op || QfL op) = true) : aop P ev ty h op = aop P ev' ty h op := by
  have hp : ∀ {α : Type} (parts : Array (α × Operand)), (∀ x ∈ parts.map (·.2), ev x = ev' x) → (parts.toList.map fun p => (p.1, ev p.2)) = (parts.toList.map fun p => (p.1, ev' p.2)) := fun parts hh => by
    refine List.map_congr_left fun p hp => ?_
    rw [hh p.2 (Array.mem_map.2 ⟨p, Array.mem_def.2 hp, rfl⟩)]
  have ha : ∀ (l : Array Operand), (∀ x ∈ l, ev x = ev' x) → l.toList.map ev = l.toList.map ev' := fun l hh => List.map_congr_left fun p hp => hh p (Array.mem_def.2 hp)
  have ho : ∀ (l : Option Operand), (∀ x, l = some x → ev x = ev' x) → l.map ev = l.map ev' := fun l hh => by
    cases l with
    | none => rfl
    | some x => simp [hh x rfl]
  cases op with
  | build t parts => simp only [aop]; rw [hp parts (fun x hx => he x (by simpa [Op.operands] using hx))]
  | buildSlice t n parts => simp only [aop]; rw [hp parts (fun x hx => he x (by simpa [Op.operands] using hx))]
  | makeFunc f a b =>
    simp only [aop]
    rw [ha a (fun x hx => he x (by simp [Op.operands, hx])), ha b (fun x hx => he x (by simp [Op.operands, hx]))]
  | makeMap t r => simp only [aop]; rw [ho r (fun x hx => he x (by simp [Op.operands, hx]))]
  | slice t x l hh m =>
    simp only [aop]
    rw [ho l (fun x hx => he x (by simp [Op.operands, hx])), ho hh (fun x hx => he x (by simp [Op.operands, hx])), he x (by simp [Op.operands])]
    cases m with
    | none => rfl
    | some m => simp only; rw [he m (by simp [Op.operands])]
  | call c =>
    obtain ⟨cal, args, tys⟩ := c
    cases cal with
    | builtin b =>
      have hargs := ha args (fun x hx => he x (by simp [Op.operands, Call.operands, hx]))
      have hone : ∀ x, args.toList = [x] → ev x = ev' x := fun x hx => he x (by simp [Op.operands, Call.operands, Array.mem_def, hx])
      have htwo : ∀ x y, args.toList = [x, y] → ev x = ev' x ∧ ev y = ev' y := fun x y hx => ⟨he x (by simp [Op.operands, Call.operands, Array.mem_def, hx]), he y (by simp [Op.operands, Call.operands, Array.mem_def, hx])⟩
      cases b with
      | len =>
        simp only [aop]
        split
        · rename_i h1 h2; rw [hone _ h1]
        · rfl
      | append =>
        simp only [aop]
        split
        · rename_i h1 h2; rw [(htwo _ _ h1).1, (htwo _ _ h1).2]
        · rfl
      | min => simp only [aop]; rw [hargs]
      | max => simp only [aop]; rw [hargs]
      | cap =>
        simp only [aop]
        split
        · rename_i h1 h2; rw [hone _ h1]
        · rfl
      | copy =>
        simp only [aop]
        split
        · rename_i h1 h2; rw [(htwo _ _ h1).1, (htwo _ _ h1).2]
        · rfl
      | unsafeString =>
        simp only [aop]
        split
        · rename_i h1 h2; rw [(htwo _ _ h1).1, (htwo _ _ h1).2]
        · rfl
      | unsafeSliceData =>
        simp only [aop]
        split
        · rename_i h1; rw [hone _ h1]
        · rfl
      | clear =>
        simp only [aop]
        split
        · rename_i h1 h2; rw [hone _ h1]
        · rfl
      | _ => rfl
    | _ => simp [Z7, QbQ, QfL] at hl
  | _ =>
    first
      | (simp [Z7, QbQ, QfL] at hl; done)
      | (simp [Op.operands] at he; simp only [aop, he]; done)
      | (simp only [aop]; done)
end Go.Proofs.YtniljpjjnmkoaaaGreatDoor.Ab
namespace Go.Proofs.YtniljpjjnmkoaaaGreatDoor.Ab
theorem Qd4 {P : Program} {c : Cx} (hst : St c) {t e : TypeId} {n len : Nat} {parts : List (Nat × AV)} {vals : Array (Nat × Value)} {r : AV} {h' : AH} (he : Q5 P t = some (e, n)) (ha : QM P t len parts c.h = some (r, h'))
  (hi : parts.map (·.1) = vals.toList.map (·.1)) (hv : RelL c (parts.map (·.2)) (vals.toList.map (·.2)).toArray) :
  ∃ y c', (Instr.buildSlice t len vals).run P c.w = .ok y c'.w ∧ Ev c c' ∧ St c' ∧ c'.h = c.h ++ [.grow e n (parts.map (·.2)).length] ∧ Rel c' (.sl n (parts.map (·.2)) (some c.h.length)) y := by
 unfold QM at ha
 ·obtain ⟨hu, hsz⟩ := XD he
  simp only [he] at ha
  split at ha
  ·rename_i hh
   obtain ⟨h1, h2, h3, h4, h5⟩ := hh
   cases hz : Xy P e with
   | none => simp [hz] at h5
   | some z =>
    obtain ⟨v, hrun, rfl⟩ := Yz hz
    simp only [hz, Option.any_some, Bool.and_eq_true, beq_iff_eq] at h5
    obtain ⟨hrl0, hone0⟩ := YI (Y4 c v) h5.1
    have hvn : v.cells.size = n := by rw [hrl0.1]; exact h5.2
    have hlen : parts.length = len := by have := congrArg List.length h1; simpa using this
    have hall : ∀ x ∈ parts.map (·.2), x.QoY = true ∧ x.cells.length = n := by
     intro x hx
     simp only [List.mem_map] at hx
     obtain ⟨p, hp, rfl⟩ := hx
     simp only [List.all_eq_true, Bool.and_eq_true, beq_iff_eq] at h2
     exact h2 p hp
    -- the zero cells
    let zs : Array Value := (Array.range (len * n)).map (v.cells[· % v.cells.size]!)
    have hzs : zs.size = len * n := by simp [zs]
    have hzone : ∀ x ∈ zs.toList, x.oneCell' = true := by
     intro x hx
     simp only [zs, Array.mem_toList_iff, Array.mem_map] at hx
     obtain ⟨i, _, rfl⟩ := hx
     have hlt : i % v.cells.size < v.cells.size := Nat.mod_lt _ (by omega)
     rw [getElem!_pos v.cells _ hlt]
     exact hone0 _ (by rw [Array.mem_toList_iff]; exact Array.getElem_mem hlt)
    have hjunk : RelL c (List.replicate (len * n) AV.junk) zs := by
     refine ⟨by simp [hzs], fun j a u ha hu => ?_⟩
     rw [List.getElem?_replicate] at ha
     split at ha
     ·cases ha; exact .junk u
     ·cases ha
    have hfill : XV (fun i => some (i * n, n)) (List.replicate (len * n) AV.junk) parts = some (flat (parts.map (·.2))) := by
     have := QcU (n := n) (parts.map (·.2)) 0 (List.replicate (len * n) AV.junk) hall (by simp [hlen])
     have e : (List.range' 0 (parts.map (·.2)).length).zip (parts.map (·.2)) = parts := by
      rw [List.length_map, hlen, ← List.range_eq_range', ← h1]
      exact Qab parts
     rw [e] at this
     rw [this]
     simp [hlen]
    obtain ⟨cs', hf, hrl, _, hone⟩ := ZK hi hv hfill hjunk hzone
    have hfl : (flat (parts.map (·.2))).length = len * n := by
     rw [flat_length (fun x hx => (hall x hx).2)]; simp [hlen]
    have hrun' : (Instr.buildSlice t len vals).run P c.w = .ok (.slice (some ⟨c.w.heap.size, 0, none⟩) len len) (c.w.alloc (.cells cs' e)) := by
     have h3' : ¬ len * n > 2 ^ 24 := by omega
     simp only [Instr.buildSlice, Sem.run_bind, underlying, run_program, Result.andThen_ok, hu, Sem.run_pure, hsz, h3', if_false]
     by_cases h0 : len * n = 0
     ·have hz0 : zs = (Array.range (len * n)).map ((#[] : Array Value)[· % (#[] : Array Value).size]!) := by
       apply Array.ext
       ·simp [hzs]
       ·intro i h1 h2; simp [hzs, h0] at h1
      rw [if_pos h0]
      simp only [Sem.run_bind, Sem.run_pure, Result.andThen_ok]
      rw [← hz0, hf]
      rfl
     ·rw [if_neg h0]
      simp only [Sem.run_bind, hrun, Result.andThen_ok, Sem.run_pure]
      rw [hf]
      rfl
    have hmaxl : len ≤ maxLen := by
     have : len * 1 ≤ len * n := Nat.mul_le_mul_left _ h4
     have h24 : (2 : Nat) ^ 24 = 16777216 := by decide
     simp only [maxLen]; omega
    have hl' : (parts.map (·.2)).length = len := by simp [hlen]
    have hg := Grows.alloc c.w (.cells cs' e)
    have ho : ∀ B, some c.w.heap.size = some B → c.w.heap.size ≤ B := fun B h => by cases h; exact Nat.le_refl _
    have hev := Ev.add hst hg (.grow e n (parts.map (·.2)).length) (some c.w.heap.size) ho
    have hρ : (c.add (c.w.alloc (.cells cs' e)) (.grow e n (parts.map (·.2)).length) (some c.w.heap.size)).ρ c.h.length = some c.w.heap.size := by simp [Cx.add]
    have hcs : cs'.size = (parts.map (·.2)).length * n := by rw [hrl.1, hfl, hl']
    have hst' : St (c.add (c.w.alloc (.cells cs' e)) (.grow e n (parts.map (·.2)).length) (some c.w.heap.size)) := by
     refine St.add hst hg _ _ ho ?_
     intro B hB
     rw [hρ] at hB; cases hB
     exact ⟨cs', QZ _ _, by omega⟩
    refine ⟨_, c.add (c.w.alloc (.cells cs' e)) (.grow e n (parts.map (·.2)).length) (some c.w.heap.size), hrun', hev, hst', rfl, ?_⟩
    have := Yn (c := c.add (c.w.alloc (.cells cs' e)) (.grow e n (parts.map (·.2)).length) (some c.w.heap.size)) hst' (b := c.h.length) (B := c.w.heap.size) (s := n) (cap := (parts.map (·.2)).length) (e := e) (xs := parts.map (·.2)) (cur := cs') (by simp [Cx.add]) hρ (QZ _ _) hcs (Nat.le_refl _) (by rw [hl']; exact hmaxl) (fun x hx => (hall x hx).2) (fun j a ha => by
     have hlt : j < cs'.size := by rw [hrl.1]; exact QF ha
     exact ⟨cs'[j], Array.getElem?_eq_getElem hlt, hone _ (by rw [Array.mem_toList_iff]; exact Array.getElem_mem hlt), (hrl.2 j a _ ha (Array.getElem?_eq_getElem hlt)).ev hst hev⟩)
    exact (show Value.slice (some ⟨c.w.heap.size, 0, none⟩) (parts.map (·.2)).length (parts.map (·.2)).length = Value.slice (some ⟨c.w.heap.size, 0, none⟩) len len by rw [hl']) ▸ this
  ·cases ha
theorem Qi5 {P : Program} {N : Nat} {base : Bs × Fence} {o : Oper} {s : AS} {t : TypeId} {len : Nat} {ps : Array (Nat × Operand)} {e : TypeId} {m : Nat} (hop : o.op = .buildSlice t len ps) (he : Q5 P t = some (e, m)) {K : AS → Prop}
  (ha : (QM P t len (ps.toList.map fun p => (p.1, s.ev p.2)) s.h).isSome = true)
  (H : K (AS.put N { s with h := s.h ++ [.grow e m (ps.toList.map fun p => s.ev p.2).length] } o.dst (.sl m (ps.toList.map fun p => s.ev p.2) (some s.h.length)))) {F : Fence} {n : Nat} {c : Cx} {a : Act} (hF : WF F) (hst : St c) (hr : SR N base c s a)
  {next : Act → World → Prop} {Qx : Exit → Act → World → Prop} (hK : ∀ s' c' a', K s' → Ev c c' → St c' → SR N base c' s' a' → next a' c'.w) : o.wpIn F n P a c.w next Qx := by
 have hev : ∀ x, Rel c (s.ev x) (a.eval x) := hr.eval
 refine ⟨fun f _ => hF.fn f, ?_⟩
 rw [Oper.semAt_eq _ _ _ (fun q => by rw [hop]; intro h; cases h)]
 obtain ⟨⟨r, h'⟩, ha⟩ := Option.isSome_iff_exists.1 ha
 rw [← hr.h] at ha
 obtain ⟨h1, h2⟩ := QbY hev ps
 obtain ⟨y, c', hrun, h3, h4, h5, h6⟩ := Qd4 hst he ha h1 h2
 have hrun' : (execOp a.eval o).run P c.w = .ok (.value y) c'.w := by
  simp only [execOp, hop, Sem.run_bind, hrun, Result.andThen_ok, Sem.run_pure]
 rw [hrun']
 have e1 : (ps.toList.map fun p => (p.1, s.ev p.2)).map (·.2) = ps.toList.map fun p => s.ev p.2 := by rw [List.map_map]; rfl
 rw [e1] at h5 h6
 have hp := hr.put hst h3 o.dst h6
 rw [h5, hr.h] at hp
 exact hK _ c' _ H h3 h4 hp
def tokA (P : Program) (ev : Operand → AV) (h : AH) (op : Op) : Option (AV × AH) := match op with
 | .buildSlice t len ps => (match Q5 P t with
  | some (e, n) => if (QM P t len (ps.toList.map fun p => (p.1, ev p.2)) h).isSome = true then some (.sl n (ps.toList.map fun p => ev p.2) (some h.length), h ++ [.grow e n (ps.toList.map fun p => ev p.2).length]) else none
  | none => none)
 | _ => none
theorem QkE {P : Program} {ev : Operand → AV} {h h' : AH} {op : Op} {r : AV} (e : tokA P ev h op = some (r, h')) : Keep h h' := by
 unfold tokA at e
 split at e
 ·split at e
  ·split at e
   ·cases e; exact Keep.app _ _
   ·cases e
  ·cases e
 ·cases e
theorem Qi0 {P : Program} {h : AH} {ev ev' : Operand → AV} {op : Op} (he : ∀ x ∈ op.operands, ev x = ev' x) : tokA P ev h op = tokA P ev' h op := by
 cases op with
 | buildSlice t len ps =>
  have h1 : ∀ p ∈ ps.toList, ev p.2 = ev' p.2 := fun p hp => he p.2 (by simp only [Op.operands, List.mem_toArray, List.mem_map]; exact ⟨p, hp, rfl⟩)
  have e1 : (ps.toList.map fun p => (p.1, ev p.2)) = ps.toList.map fun p => (p.1, ev' p.2) := List.map_congr_left fun p hp => by rw [h1 p hp]
  have e2 : (ps.toList.map fun p => ev p.2) = ps.toList.map fun p => ev' p.2 := List.map_congr_left fun p hp => h1 p hp
  simp only [tokA, e1, e2]
 | _ => rfl
theorem Qjh {P : Program} {N : Nat} {base : Bs × Fence} {o : Oper} {s : AS} {r : AV} {h' : AH} (ha : tokA P s.ev s.h o.op = some (r, h')) {K : AS → Prop} (H : K (AS.put N { s with h := h' } o.dst r)) {F : Fence} {n : Nat} {c : Cx} {a : Act} (hF : WF F) (hst : St c) (hr : SR N base c s a)
  {next : Act → World → Prop} {Qx : Exit → Act → World → Prop} (hK : ∀ s' c' a', K s' → Ev c c' → St c' → SR N base c' s' a' → next a' c'.w) : o.wpIn F n P a c.w next Qx := by
 unfold tokA at ha
 split at ha
 ·rename_i t len ps hop
  split at ha
  ·rename_i e m he
   split at ha
   ·rename_i hs
    cases ha
    exact Qi5 hop he hs H hF hst hr hK
   ·cases ha
  ·cases ha
 ·cases ha
end Go.Proofs.YtniljpjjnmkoaaaGreatDoor.Ab
namespace Go.Proofs.YtniljpjjnmkoaaaGreatDoor.Ab
inductive Anc (ops : Array Oper) : Nat → Nat → Prop
 | edge (j : Nat) (o : Oper) (e : Edge) (ho : ops[j]? = some o) (he : e ∈ o.after) (hb : Region.binds .any e = true) : Anc ops e.on j
 | trans {i j k : Nat} : Anc ops i j → Anc ops j k → Anc ops i k
def QmY (acc : List Nat) (o : Oper) : Nat := o.after.toList.foldl (fun s e => if Region.binds .any e then s ||| 2 ^ e.on ||| acc.getD e.on 0 else s) 0
def masks : List Oper → List Nat → List Nat
 | [], acc => acc
 | o :: l, acc => masks l (acc ++ [QmY acc o])
theorem Qhu {ops : Array Oper} {acc : List Nat} {o : Oper} {j : Nat} (ho : ops[j]? = some o) (hacc : ∀ (k i : Nat), (acc.getD k 0).testBit i = true → Anc ops i k) {i : Nat} (h : (QmY acc o).testBit i = true) : Anc ops i j := by
 have go : ∀ (l : List Edge) (s : Nat), (∀ e ∈ l, e ∈ o.after) → (∀ i, s.testBit i = true → Anc ops i j) → ∀ i, (l.foldl (fun s e => if Region.binds .any e then s ||| 2 ^ e.on ||| acc.getD e.on 0 else s) s).testBit i = true → Anc ops i j := by
  intro l
  induction l with
  | nil => intro s _ hs i hi; exact hs i hi
  | cons e l ih =>
   intro s hl hs i hi
   refine ih _ (fun e he => hl e (by simp [he])) ?_ i hi
   intro i hi
   dsimp only at hi
   split at hi
   ·rename_i hb
    have hedge := Anc.edge j o e ho (hl e (by simp)) hb
    simp only [Nat.testBit_or, Bool.or_eq_true] at hi
    rcases hi with (hi | hi) | hi
    ·exact hs i hi
    ·rw [Nat.testBit_two_pow] at hi
     have : e.on = i := by simpa using hi
     exact this ▸ hedge
    ·exact (hacc _ _ hi).trans hedge
   ·exact hs i hi
 exact go _ 0 (fun e he => Array.mem_def.2 he) (fun i hi => by simp at hi) i h
theorem Qek {ops : Array Oper} : ∀ (l : List Oper) (acc : List Nat), (∀ (j : Nat) o, l[j]? = some o → ops[acc.length + j]? = some o) → (∀ (k i : Nat), (acc.getD k 0).testBit i = true → Anc ops i k) →
  ∀ (k i : Nat), ((masks l acc).getD k 0).testBit i = true → Anc ops i k
 | [], acc, _, h => h
 | o :: l, acc, hl, h => by
  refine Qek l _ (fun j o' hj => ?_) ?_
  ·have := hl (j + 1) o' (by simpa using hj)
   simpa [Nat.add_assoc, Nat.add_comm 1 j] using this
  ·intro k i hk
   simp only [List.getD_eq_getElem?_getD] at hk
   by_cases hlt : k < acc.length
   ·rw [List.getElem?_append_left hlt, ← List.getD_eq_getElem?_getD] at hk; exact h k i hk
   ·by_cases heq : k = acc.length
    ·subst heq
     rw [List.getElem?_append_right (Nat.le_refl _)] at hk
     simp only [Nat.sub_self, QpM, Option.getD_some] at hk
     exact Qhu (by simpa using hl 0 o (by simp)) h hk
    ·rw [List.getElem?_eq_none (by simp; omega)] at hk
     simp at hk
def Down (ops : Array Oper) (S : Nat → Bool) : Prop := ∀ (j : Nat) o, ops[j]? = some o → S j = true → ∀ e ∈ o.after, Region.binds .any e = true → S e.on = true
theorem Down.anc {ops : Array Oper} {S : Nat → Bool} (h : Down ops S) {i j : Nat} (ha : Anc ops i j) : S j = true → S i = true := by
 induction ha with
 | edge j o e ho he hb => exact fun hj => h j o ho hj e he hb
 | trans _ _ ih1 ih2 => exact fun hk => ih1 (ih2 hk)
def tmpsOf (l : List Operand) : List Nat := l.filterMap fun | .tmp t => some t | _ => none
def readsOf (ops : Array Oper) (o : Oper) : List Nat := tmpsOf o.op.operands.toList ++ match o.guard with
 | some (j, _) => ((ops[j]?).bind (·.dst)).toList
 | none => []
def clash (ops : Array Oper) (a b : Oper) (ca cb : Nat) : Bool :=
 (match a.dst with | some d => (readsOf ops b).contains d || b.dst == some d | none => false) || (match b.dst with | some d => (readsOf ops a).contains d | none => false) ||
 (decide (2 ≤ ca) && cb != 1) || (ca != 1 && decide (2 ≤ cb) && !((QbQ b.op && cb != 4) || cb == 3))
def QfQ (ops : Array Oper) (ms : List Nat) : List (Nat × Nat) → Bool
 | [] => true
 | (i, ci) :: l => (l.all fun p => match ops[i]?, ops[p.1]? with
   | some a, some b => !clash ops a b ci p.2 || (ms.getD p.1 0).testBit i
   | _, _ => false) && QfQ ops ms l
def topo (ops : Array Oper) : List Nat → List (Nat × Nat) → Bool
 | _, [] => true
 | pre, (i, _) :: l => (match ops[i]? with
  | some o => o.after.toList.all fun e => !Region.binds .any e || pre.contains e.on
  | none => false) && topo ops (i :: pre) l
def QaW (o : Oper) : Bool := match o.op with
 | .call c => match c.callee with | .value _ => true | _ => false
 | _ => false
def kindOk (o : Oper) (c : Nat) : Bool :=
 QaW o || (Z7 o.op && decide (c < 2)) || ((c == 2 || c == 4 || c == 5) && (QbQ o.op || QfL o.op))
def Qmt : List Nat → Bool
 | [] => true
 | x :: l => !l.contains x && Qmt l
def QnB (ops : Array Oper) (π : List (Nat × Nat)) : Bool :=
 π.length == ops.size && QfQ ops (masks ops.toList []) π && topo ops [] π && Qmt (π.map (·.1)) && ((List.range ops.size).all fun i => (π.map (·.1)).contains i) &&
 π.all fun p => match ops[p.1]? with | some o => kindOk o p.2 | none => false
def StepA (P : Program) (ops : Array Oper) (tm : Nat → AV) (h : AH) (c : Nat) (o : Oper) (r : AV) (h' : AH) : Prop :=
 match Qf ops tm o with
 | some false => r = .v undef ∧ h' = h
 | some true =>
  match o.op with
  | .call ⟨.value f, args, tys⟩ => if 2 ≤ c then FunW P (AS.ev ⟨tm, []⟩ f) (args.toList.map (AS.ev ⟨tm, []⟩)) h (fun out h'' => out = .ret r ∧ h'' = h') ∧ (c = 3 → Keep h h') else (∀ hx, (c = 0 → Keep h hx) → FunW P (AS.ev ⟨tm, []⟩ f) (args.toList.map (AS.ev ⟨tm, []⟩)) hx fun out h'' => out = .ret r ∧ h'' = hx) ∧ h' = h
  | op => if c = 1 then (∃ h1, aop P (AS.ev ⟨tm, []⟩) o.type [] op = some (r, h1)) ∧ h' = h else aop P (AS.ev ⟨tm, []⟩) o.type h op = some (r, h') ∨ (c = 4 ∧ aop P (AS.ev ⟨tm, []⟩) o.type h op = none ∧ aopR P (AS.ev ⟨tm, []⟩) h op = some (r, h')) ∨ (c = 5 ∧ tokA P (AS.ev ⟨tm, []⟩) h op = some (r, h'))
 | none => False
theorem QiJ {P : Program} {h : AH} {ev ev' : Operand → AV} {op : Op} (he : ∀ x ∈ op.operands, ev x = ev' x) : aopR P ev h op = aopR P ev' h op := by
 cases op with
 | call c =>
  obtain ⟨cal, args, tys⟩ := c
  cases cal with
  | builtin b =>
   have htwo : ∀ x y, args.toList = [x, y] → ev x = ev' x ∧ ev y = ev' y := fun x y hx => ⟨he x (by simp [Op.operands, Call.operands, Array.mem_def, hx]), he y (by simp [Op.operands, Call.operands, Array.mem_def, hx])⟩
   cases b with
   | append =>
    simp only [aopR]
    split
    ·rename_i h1 h2; rw [(htwo _ _ h1).1, (htwo _ _ h1).2]
    ·rfl
   | _ => rfl
  | _ => rfl
 | _ => rfl
theorem Qk0 {P : Program} {h : AH} {ev : Operand → AV} {op : Op} {x : AV × AH} (e : aopR P ev h op = some x) : ∃ args tys, op = .call ⟨.builtin .append, args, tys⟩ := by
 cases op with
 | call c =>
  obtain ⟨cal, args, tys⟩ := c
  cases cal with
  | builtin b =>
   cases b with
   | append => exact ⟨args, tys, rfl⟩
   | _ => simp [aopR] at e
  | _ => simp [aopR] at e
 | _ => simp [aopR] at e
theorem Qci (tm : Nat → AV) (h h' : AH) (x : Operand) : AS.ev ⟨tm, h⟩ x = AS.ev ⟨tm, h'⟩ x := by cases x <;> rfl
theorem QfT {ops : Array Oper} {tm tm' : Nat → AV} {o : Oper} (h : ∀ t ∈ readsOf ops o, tm t = tm' t) : Qf ops tm o = Qf ops tm' o := by
 unfold Qf
 cases hg : o.guard with
 | none => rfl
 | some jw =>
  obtain ⟨j, want⟩ := jw
  simp only
  cases hd : (ops[j]?).bind (·.dst) with
  | none => rfl
  | some d =>
   have : tm d = tm' d := h d (by unfold readsOf; rw [hg]; simp [hd])
   simp only [this]
theorem QcF {ops : Array Oper} {tm tm' : Nat → AV} {o : Oper} (h : ∀ t ∈ readsOf ops o, tm t = tm' t) : ∀ x ∈ o.op.operands, AS.ev ⟨tm, []⟩ x = AS.ev ⟨tm', []⟩ x := by
 intro x hx
 cases x with
 | tmp t => exact h t (by unfold readsOf tmpsOf; exact List.mem_append_left _ (List.mem_filterMap.2 ⟨.tmp t, Array.mem_def.1 hx, rfl⟩))
 | _ => rfl
theorem Qba {o : Oper} (h : QaW o = true) : ∃ f args tys, o.op = .call ⟨.value f, args, tys⟩ := by
 unfold QaW at h
 cases ho : o.op with
 | call c =>
  obtain ⟨cal, args, tys⟩ := c
  cases cal with
  | value f => exact ⟨f, args, tys, rfl⟩
  | _ => simp [ho] at h
 | _ => simp [ho] at h
theorem StepA.turn {P : Program} {ops : Array Oper} {tm tm' : Nat → AV} {h h2 h' : AH} {c : Nat} {o : Oper} {r : AV} (hs : StepA P ops tm h c o r h') (hk : kindOk o c = true) (ht : ∀ t ∈ readsOf ops o, tm' t = tm t)
  (hh : (2 ≤ c ∧ h2 = h) ∨ (c < 2 ∧ (c = 1 ∨ Keep h h2))) (N : Nat) :
  (Qf ops tm' o = some false ∧ r = .v undef ∧ (if 2 ≤ c then h' else h2) = h2) ∨
  (Qf ops tm' o = some true ∧ ((∀ (K : AS → Prop) (E : AV → AS → Prop), K (AS.put N ⟨tm', if 2 ≤ c then h' else h2⟩ o.dst r) → OpW P N o ⟨tm', h2⟩ K E) ∨ tokA P (AS.ev ⟨tm', h2⟩) h2 o.op = some (r, if 2 ≤ c then h' else h2))) := by
 unfold StepA at hs
 rw [QfT ht]
 split at hs
 ·rename_i hw
  obtain ⟨rfl, rfl⟩ := hs
  refine .inl ⟨hw, rfl, ?_⟩
  rcases hh with ⟨_, rfl⟩ | ⟨hc, _⟩
  ·simp
  ·rw [if_neg (by omega)]
 ·rename_i hw
  refine .inr ⟨hw, ?_⟩
  split at hs
  ·rename_i f args tys hop
   refine .inl fun K E hK => ?_
   unfold OpW
   simp only [hop]
   have hev := QcF ht
   rw [hop] at hev
   have h1 : AS.ev ⟨tm', h2⟩ f = AS.ev ⟨tm, []⟩ f := (Qci _ _ _ _).trans (hev f (by simp [Op.operands, Call.operands]))
   have h2' : args.toList.map (AS.ev ⟨tm', h2⟩) = args.toList.map (AS.ev ⟨tm, []⟩) := List.map_congr_left fun x hx => (Qci _ _ _ _).trans (hev x (by simp [Op.operands, Call.operands, Array.mem_def, hx]))
   rw [h1, h2']
   by_cases hc : 2 ≤ c
   ·rw [if_pos hc] at hs hK
    rcases hh with ⟨_, rfl⟩ | ⟨hc', _⟩
    ·exact hs.1.mono fun out h'' ⟨e1, e2⟩ => by subst e1; subst e2; exact hK
    ·omega
   ·rw [if_neg hc] at hs hK
    refine (hs.1 h2 fun h0 => ?_).mono fun out h'' ⟨e1, e2⟩ => by subst e1; subst e2; exact hK
    rcases hh with ⟨hc', _⟩ | ⟨_, h1 | h1⟩
    ·omega
    ·omega
    ·exact h1
  ·rename_i op hnc
   have hcall : QaW o = false := by
    cases hc : QaW o with
    | false => rfl
    | true => obtain ⟨f, args, tys, e⟩ := Qba hc; exact (hnc _ _ _ e).elim
   simp only [kindOk, hcall, Bool.false_or, Bool.or_eq_true, Bool.and_eq_true] at hk
   have hcongr : ∀ hx, aop P (AS.ev ⟨tm', h2⟩) o.type hx o.op = aop P (AS.ev ⟨tm, []⟩) o.type hx o.op := fun hx => by
    refine Qkh (fun x hx => (Qci _ _ _ _).trans (QcF ht x hx)) ?_
    rcases hk with ⟨h1, _⟩ | ⟨_, h1 | h1⟩
    ·simp [h1]
    ·simp [h1]
    ·simp [h1]
   by_cases hT : c = 5 ∧ tokA P (AS.ev ⟨tm, []⟩) h o.op = some (r, h')
   ·obtain ⟨rfl, hT⟩ := hT
    rcases hh with ⟨_, rfl⟩ | ⟨hc', _⟩
    ·refine .inr ?_
     rw [if_pos (by omega)]
     exact (Qi0 (fun x hx => (Qci _ _ _ _).trans (QcF ht x hx))).trans hT
    ·omega
   refine .inl fun K E hK => ?_
   by_cases hR : c = 4 ∧ aop P (AS.ev ⟨tm, []⟩) o.type h o.op = none ∧ aopR P (AS.ev ⟨tm, []⟩) h o.op = some (r, h')
   ·obtain ⟨rfl, hn, hR⟩ := hR
    rcases hh with ⟨_, rfl⟩ | ⟨hc', _⟩
    ·obtain ⟨args, tys, hop⟩ := Qk0 hR
     have hR' : aopR P (AS.ev ⟨tm', h2⟩) h2 o.op = some (r, h') := (QiJ (fun x hx => (Qci _ _ _ _).trans (QcF ht x hx))).trans hR
     have hn' : aop P (AS.ev ⟨tm', h2⟩) o.type h2 o.op = none := (hcongr h2).trans hn
     rw [if_pos (by omega)] at hK
     unfold OpW
     rw [hop] at hR' hn' ⊢
     simp only [hR', hn']
     exact hK
    ·omega
   replace hs : if c = 1 then (∃ h1, aop P (AS.ev ⟨tm, []⟩) o.type [] o.op = some (r, h1)) ∧ h' = h else aop P (AS.ev ⟨tm, []⟩) o.type h o.op = some (r, h') := by
    by_cases hc1 : c = 1
    ·rw [if_pos hc1] at hs ⊢; exact hs
    ·rw [if_neg hc1] at hs ⊢
     exact hs.resolve_right fun q => q.elim hR hT
   -- what it is over the heap at hand
   have key : aop P (AS.ev ⟨tm', h2⟩) o.type h2 o.op = some (r, if 2 ≤ c then h' else h2) := by
    rw [hcongr]
    rcases hh with ⟨hc, rfl⟩ | ⟨hc, hh⟩
    ·rw [if_neg (by omega)] at hs
     rw [if_pos hc]; exact hs
    ·have hl : Z7 o.op = true := by
      rcases hk with ⟨h1, _⟩ | ⟨h1, _⟩
      ·exact h1
      ·simp at h1; omega
     rw [if_neg (by omega)]
     by_cases hc1 : c = 1
     ·rw [if_pos hc1] at hs
      obtain ⟨⟨h1, hs⟩, _⟩ := hs
      exact (QfK (Keep.nil h2) hl hs).2
     ·rw [if_neg hc1] at hs
      rcases hh with hh | hh
      ·exact (hc1 hh).elim
      ·exact (QfK hh hl hs).2
   unfold OpW
   split
   ·rename_i t ps hop
    rw [hop] at key
    simp only [aop] at key
    have key0 := key
    unfold QM at key
    cases he : Q5 P t with
    | none => simp [he] at key
    | some en =>
     obtain ⟨e, n⟩ := en
     simp only [he, if_true] at key
     split at key
     ·rename_i hcond
      have hps : ps.toList = [] := by
       have := congrArg List.length hcond.1
       simpa using this
      simp only [QpS, Prod.mk.injEq] at key
      obtain ⟨e1, e2⟩ := key
      simp only [hps, Qp5] at key0 ⊢
      rw [← e2] at hK key0
      rw [← e1] at hK key0
      exact ⟨key0, .inl hK⟩
     ·cases key
   ·rename_i q hop
    obtain ⟨cal, args, tys⟩ := q
    cases cal with
    | value f => simp [QaW, hop] at hcall
    | _ => simp only [key]; exact hK
   ·rename_i x hop
    rw [hop] at key; simp [aop] at key
   ·rw [key]; exact hK
 ·exact hs.elim
structure Tr where
 i : Nat
 c : Nat
 o : Oper
 r : AV
 h' : AH
def putT (N : Nat) (tm : Nat → AV) (d : Option Tmp) (r : AV) : Nat → AV := match d with
 | some d => if d < N then upd tm d r else tm
 | none => tm
theorem put_eq (N : Nat) (tm : Nat → AV) (h : AH) (d : Option Tmp) (r : AV) : AS.put N ⟨tm, h⟩ d r = ⟨putT N tm d r, h⟩ := by
 cases d with
 | none => rfl
 | some d => simp only [AS.put, putT]; split <;> rfl
theorem Qe8 {N : Nat} {tm : Nat → AV} {d : Option Tmp} {r : AV} {x : Nat} (h : d ≠ some x) : putT N tm d r x = tm x := by
 cases d with
 | none => rfl
 | some d =>
  simp only [putT]
  split
  ·rw [upd_ne]; intro e; exact h (by rw [e])
  ·rfl
theorem QeI {N : Nat} {tm tm' : Nat → AV} {d : Option Tmp} {r : AV} {x : Nat} (h : d ≠ some x → tm x = tm' x) (h' : tm x = tm' x ∨ x < N) : putT N tm d r x = putT N tm' d r x := by
 cases d with
 | none => exact h (by simp)
 | some d =>
  simp only [putT]
  by_cases hx : x = d
  ·subst hx
   split
   ·simp
   ·rename_i hn
    rcases h' with h' | h'
    ·exact h'
    ·exact (hn h').elim
  ·have := h (by intro e; cases e; exact hx rfl)
   split
   ·rw [upd_ne _ _ hx, upd_ne _ _ hx]; exact this
   ·exact this
def tmS (N : Nat) (S : Nat → Bool) : List Tr → (Nat → AV) → (Nat → AV)
 | [], f => f
 | t :: l, f => tmS N S l (if S t.i then putT N f t.o.dst t.r else f)
def hS (S : Nat → Bool) : List Tr → AH → AH
 | [], h => h
 | t :: l, h => hS S l (if S t.i && decide (2 ≤ t.c) then t.h' else h)
theorem Qfx (N : Nat) (S : Nat → Bool) : ∀ (l m : List Tr) (f : Nat → AV), tmS N S (l ++ m) f = tmS N S m (tmS N S l f)
 | [], m, f => rfl
 | t :: l, m, f => Qfx N S l m _
theorem QgW (S : Nat → Bool) : ∀ (l m : List Tr) (f : AH), hS S (l ++ m) f = hS S m (hS S l f)
 | [], m, f => rfl
 | t :: l, m, f => QgW S l m _
theorem Qbz {N : Nat} {S : Nat → Bool} {x : Nat} : ∀ {l : List Tr} {f : Nat → AV}, (∀ t ∈ l, S t.i = true → t.o.dst ≠ some x) → tmS N S l f x = f x
 | [], f, h => rfl
 | t :: l, f, h => by
  simp only [tmS]
  rw [Qbz (fun t ht => h t (by simp [ht]))]
  split
  ·rename_i hs; exact Qe8 (h t (by simp) hs)
  ·rfl
theorem Qbc {N : Nat} {S S' : Nat → Bool} {x : Nat} : ∀ {l : List Tr} {f f' : Nat → AV}, f x = f' x → (∀ t ∈ l, t.o.dst = some x → S t.i = S' t.i) → tmS N S l f x = tmS N S' l f' x
 | [], f, f', hf, h => hf
 | t :: l, f, f', hf, h => by
  simp only [tmS]
  refine Qbc ?_ (fun t ht => h t (by simp [ht]))
  by_cases hd : t.o.dst = some x
  ·rw [h t (by simp) hd]
   split
   ·exact QeI (fun _ => hf) (.inl hf)
   ·exact hf
  ·have e1 : ∀ (b : Bool) (g : Nat → AV), (if b = true then putT N g t.o.dst t.r else g) x = g x := fun b g => by
    split
    ·exact Qe8 hd
    ·rfl
   rw [e1, e1]; exact hf
theorem QbS {S S' : Nat → Bool} : ∀ {l : List Tr} {f : AH}, (∀ t ∈ l, 2 ≤ t.c → S t.i = S' t.i) → hS S l f = hS S' l f
 | [], f, h => rfl
 | t :: l, f, h => by
  simp only [hS]
  by_cases hc : 2 ≤ t.c
  ·rw [h t (by simp) hc]; exact QbS fun t ht => h t (by simp [ht])
  ·have : (decide (2 ≤ t.c)) = false := by simpa using hc
   rw [this, Bool.and_false, Bool.and_false]; exact QbS fun t ht => h t (by simp [ht])
theorem Qdd {S : Nat → Bool} : ∀ {l : List Tr} {f : AH}, (∀ t ∈ l, 2 ≤ t.c → S t.i = false) → hS S l f = f
 | [], f, h => rfl
 | t :: l, f, h => by
  simp only [hS]
  have : (S t.i && decide (2 ≤ t.c)) = false := by
   by_cases hc : 2 ≤ t.c
   ·rw [h t (by simp) hc]; rfl
   ·have : (decide (2 ≤ t.c)) = false := by simpa using hc
    rw [this, Bool.and_false]
  rw [this]
  exact Qdd fun t ht => h t (by simp [ht])
inductive Runs (P : Program) (N : Nat) (ops : Array Oper) : List Tr → (Nat → AV) → AH → Prop
 | nil (tm : Nat → AV) (h : AH) : Runs P N ops [] tm h
 | cons (t : Tr) (l : List Tr) (tm : Nat → AV) (h : AH) (ho : ops[t.i]? = some t.o) (hk : kindOk t.o t.c = true) (hs : StepA P ops tm h t.c t.o t.r t.h') (hl : Runs P N ops l (putT N tm t.o.dst t.r) (if 2 ≤ t.c then t.h' else h)) : Runs P N ops (t :: l) tm h
theorem Runs.split {P : Program} {N : Nat} {ops : Array Oper} : ∀ {l m : List Tr} {tm : Nat → AV} {h : AH}, Runs P N ops (l ++ m) tm h → Runs P N ops m (tmS N (fun _ => true) l tm) (hS (fun _ => true) l h)
 | [], m, tm, h, H => H
 | t :: l, m, tm, h, H => by
  cases H with
  | cons t l tm h ho hk hs hl =>
   have := Runs.split hl
   simp only [tmS, hS, if_true, Qqw, decide_eq_true_eq]
   exact this
theorem Runs.keep {P : Program} {N : Nat} {ops : Array Oper} {S : Nat → Bool} : ∀ {l : List Tr} {tm : Nat → AV} {h : AH}, Runs P N ops l tm h → (∀ t ∈ l, 2 ≤ t.c → S t.i = true → ((QbQ t.o.op && t.c != 4) || t.c == 3) = true) →
  l.Pairwise (fun a b => 2 ≤ a.c → 2 ≤ b.c → S b.i = true → S a.i = true) → Keep h (hS S l h)
 | [], tm, h, H, _, _ => Keep.refl h
 | t :: l, tm, h, H, ha, hp => by
  cases H with
  | cons t l tm h ho hk hs hl =>
   simp only [hS]
   obtain ⟨hp1, hp2⟩ := List.pairwise_cons.1 hp
   by_cases hc : 2 ≤ t.c
   ·cases hS' : S t.i with
    | true =>
     simp only [hc, Qqi, Qp8, if_true]
     rw [if_pos hc] at hl
     refine Keep.trans ?_ (Runs.keep hl (fun t ht => ha t (by simp [ht])) hp2)
     have hadd := ha t (by simp) hc hS'
     unfold StepA at hs
     split at hs
     ·rw [hs.2]; exact Keep.refl _
     ·split at hs
      ·rename_i f args tys hop
       rw [if_pos hc] at hs
       refine hs.2 ?_
       rw [hop] at hadd
       simpa [QbQ] using hadd
      ·rename_i op hnc
       rw [if_neg (by omega)] at hs
       have hcall : QaW t.o = false := by
        cases hc : QaW t.o with
        | false => rfl
        | true => obtain ⟨f, args, tys, e⟩ := Qba hc; exact (hnc _ _ _ e).elim
       simp only [kindOk, hcall, Bool.false_or, Bool.or_eq_true, Bool.and_eq_true, decide_eq_true_eq, beq_iff_eq] at hk
       have h3 : t.c ≠ 3 := by
        rcases hk with ⟨_, h⟩ | ⟨h, _⟩
        ·omega
        ·omega
       simp only [Bool.or_eq_true, Bool.and_eq_true, bne_iff_ne, ne_eq, beq_iff_eq] at hadd
       rcases hadd with ⟨hadd, h4⟩ | hadd
       ·rcases hs with hs | ⟨hs, _⟩ | ⟨_, hs⟩
        ·exact Qmc hadd hs
        ·exact (h4 hs).elim
        ·exact QkE hs
       ·exact (h3 hadd).elim
     ·exact hs.elim
    | false =>
     simp only [Bool.false_and, QpQ, if_false]
     rw [Qdd (fun t' ht' hc' => ?_)]
     ·exact Keep.refl _
     ·cases hb : S t'.i with
      | false => rfl
      | true => have := hp1 t' ht' hc hc' hb; rw [hS'] at this; cases this
   ·have : (decide (2 ≤ t.c)) = false := by simpa using hc
    rw [if_neg hc] at hl
    rw [this, Bool.and_false]
    exact Runs.keep hl (fun t ht => ha t (by simp [ht])) hp2
def Qnh (P : Program) (N : Nat) (fv : AV) (args : List AV) (s : AS) (d : Option Tmp) (K : AS → Prop) : Prop :=
 ∃ r, (∀ hx, FunW P fv args hx fun out h'' => out = .ret r ∧ h'' = hx) ∧ K (AS.put N s d r)
def Qm9 (P : Program) (N : Nat) (fv : AV) (args : List AV) (s : AS) (d : Option Tmp) (K : AS → Prop) : Prop :=
 ∃ r, (∀ hx, Keep s.h hx → FunW P fv args hx fun out h'' => out = .ret r ∧ h'' = hx) ∧ K (AS.put N s d r)
def QnE (P : Program) (N c : Nat) (fv : AV) (args : List AV) (s : AS) (d : Option Tmp) (K : AS → Prop) : Prop :=
 ∃ r h', FunW P fv args s.h (fun out h'' => out = .ret r ∧ h'' = h') ∧ (c = 3 → Keep s.h h') ∧ K (AS.put N { s with h := h' } d r)
def AnyO (P : Program) (N : Nat) (ops : Array Oper) (c : Nat) (o : Oper) (s : AS) (K : AS → Prop) : Prop :=
 match Qf ops s.tm o with
 | some false => K (AS.put N s o.dst (.v undef))
 | some true =>
  match o.op with
  | .call ⟨.value f, args, tys⟩ => if 2 ≤ c then QnE P N c (s.ev f) (args.toList.map s.ev) s o.dst K else if c = 0 then Qm9 P N (s.ev f) (args.toList.map s.ev) s o.dst K else Qnh P N (s.ev f) (args.toList.map s.ev) s o.dst K
  | op => if c = 5 then (match tokA P s.ev s.h op with
    | some (r, h') => K (AS.put N { s with h := h' } o.dst r)
    | none => False) else match aop P s.ev o.type (if c = 1 then [] else s.h) op with
   | some (r, h') => K (AS.put N { s with h := if c = 1 then s.h else h' } o.dst r)
   | none => c = 4 ∧ match aopR P s.ev s.h op with
    | some (r, h') => K (AS.put N { s with h := h' } o.dst r)
    | none => False
 | none => False
def AnyW (P : Program) (N : Nat) (ops : Array Oper) : List (Nat × Nat) → (AS → Prop) → AS → Prop
 | [], K, s => K s
 | (i, c) :: l, K, s => match ops[i]? with
  | some o => AnyO P N ops c o s (AnyW P N ops l K)
  | none => False
theorem Qg9 {P : Program} {N : Nat} {ops : Array Oper} {K : AS → Prop} : ∀ {π : List (Nat × Nat)} {tm : Nat → AV} {h : AH}, AnyW P N ops π K ⟨tm, h⟩ → (π.all fun p => match ops[p.1]? with | some o => kindOk o p.2 | none => false) = true →
  ∃ tr : List Tr, tr.map (fun t => (t.i, t.c)) = π ∧ Runs P N ops tr tm h ∧ K ⟨tmS N (fun _ => true) tr tm, hS (fun _ => true) tr h⟩
 | [], tm, h, H, _ => ⟨[], rfl, .nil _ _, H⟩
 | (i, c) :: π, tm, h, H, hk => by
  simp only [Qp6, Bool.and_eq_true] at hk
  obtain ⟨hk1, hk2⟩ := hk
  simp only [AnyW] at H
  cases ho : ops[i]? with
  | none => simp [ho] at H
  | some o =>
   simp only [ho] at H hk1
   -- a step, and the rest
   have fin : ∀ (r : AV) (h' : AH), StepA P ops tm h c o r h' → AnyW P N ops π K ⟨putT N tm o.dst r, if 2 ≤ c then h' else h⟩ →
     ∃ tr : List Tr, tr.map (fun t => (t.i, t.c)) = (i, c) :: π ∧ Runs P N ops tr tm h ∧ K ⟨tmS N (fun _ => true) tr tm, hS (fun _ => true) tr h⟩ := by
    intro r h' hs hw
    obtain ⟨tr, h1, h2, h3⟩ := Qg9 hw hk2
    refine ⟨⟨i, c, o, r, h'⟩ :: tr, by simp [h1], .cons ⟨i, c, o, r, h'⟩ tr tm h ho hk1 hs h2, ?_⟩
    simp only [tmS, hS, if_true, Qqw, decide_eq_true_eq]
    exact h3
   unfold AnyO at H
   simp only at H
   split at H
   ·rename_i hw
    rw [put_eq] at H
    refine fin (.v undef) h (by unfold StepA; simp only [hw, Qqk]) ?_
    simpa using H
   ·rename_i hw
    split at H
    ·rename_i f args tys hop
     have h1 : AS.ev ⟨tm, []⟩ f = AS.ev ⟨tm, h⟩ f := Qci _ _ _ _
     have h2 : args.toList.map (AS.ev ⟨tm, []⟩) = args.toList.map (AS.ev ⟨tm, h⟩) := List.map_congr_left fun x _ => Qci _ _ _ _
     by_cases hc : 2 ≤ c
     ·rw [if_pos hc] at H
      obtain ⟨r, h', hf, hkp, H⟩ := H
      rw [put_eq] at H
      refine fin r h' ?_ (by rw [if_pos hc]; exact H)
      unfold StepA
      simp only [hw, hop, if_pos hc]
      rw [h1, h2]
      exact ⟨hf, hkp⟩
     ·rw [if_neg hc] at H
      by_cases h0 : c = 0
      ·rw [if_pos h0] at H
       obtain ⟨r, hf, H⟩ := H
       rw [put_eq] at H
       refine fin r h ?_ (by simpa using H)
       unfold StepA
       simp only [hw, hop, if_neg hc, Qqm]
       intro hx hkp
       rw [h1, h2]
       exact hf hx (hkp h0)
      ·rw [if_neg h0] at H
       obtain ⟨r, hf, H⟩ := H
       rw [put_eq] at H
       refine fin r h ?_ (by simpa using H)
       unfold StepA
       simp only [hw, hop, if_neg hc, Qqm]
       intro hx _
       rw [h1, h2]
       exact hf hx
    ·rename_i op hnc
     have hev : AS.ev ⟨tm, h⟩ = AS.ev ⟨tm, []⟩ := funext fun x => Qci _ _ _ _
     have hstep : ∀ r h', (if c = 1 then (∃ h1, aop P (AS.ev ⟨tm, []⟩) o.type [] o.op = some (r, h1)) ∧ h' = h else aop P (AS.ev ⟨tm, []⟩) o.type h o.op = some (r, h') ∨ (c = 4 ∧ aop P (AS.ev ⟨tm, []⟩) o.type h o.op = none ∧ aopR P (AS.ev ⟨tm, []⟩) h o.op = some (r, h')) ∨ (c = 5 ∧ tokA P (AS.ev ⟨tm, []⟩) h o.op = some (r, h'))) → StepA P ops tm h c o r h' := by
      intro r h' hh
      unfold StepA
      rw [hw]
      cases hop : o.op with
      | call q =>
       obtain ⟨cal, args, tys⟩ := q
       cases cal with
       | value f => exact (hnc _ _ _ hop).elim
       | _ => rw [hop] at hh; exact hh
      | _ => rw [hop] at hh; exact hh
     by_cases hc5 : c = 5
     ·subst hc5
      rw [if_pos rfl] at H
      split at H
      ·rename_i r h' hT
       rw [put_eq] at H
       rw [hev] at hT
       refine fin r h' (hstep r h' (by rw [if_neg (by decide)]; exact .inr (.inr ⟨rfl, hT⟩))) ?_
       rw [if_pos (by omega)]; exact H
      ·exact H.elim
     rw [if_neg hc5] at H
     split at H
     ·rename_i r h' ha
      rw [put_eq] at H
      rw [hev] at ha
      by_cases hc1 : c = 1
      ·subst hc1
       simp only [if_true] at ha
       refine fin r h (hstep r h ?_) ?_
       ·rw [if_pos rfl]; exact ⟨⟨_, ha⟩, rfl⟩
       ·simpa using H
      ·simp only [if_neg hc1] at ha H
       refine fin r h' (hstep r h' (by rw [if_neg hc1]; exact .inl ha)) ?_
       by_cases hc2 : 2 ≤ c
       ·rw [if_pos hc2]; exact H
       ·rw [if_neg hc2]
        have hl : Z7 o.op = true := by
         have hcall : QaW o = false := by
          cases hc : QaW o with
          | false => rfl
          | true => obtain ⟨f, args, tys, e⟩ := Qba hc; exact (hnc _ _ _ e).elim
         simp only [kindOk, hcall, Bool.false_or, Bool.or_eq_true, Bool.and_eq_true] at hk1
         rcases hk1 with ⟨h1, _⟩ | ⟨h1, _⟩
         ·exact h1
         ·simp at h1; exact (hc2 (by omega)).elim
        have := (QfK (Keep.refl h) hl ha).1
        rw [← this]; exact H
     ·rename_i ha
      obtain ⟨rfl, H⟩ := H
      rw [hev] at ha H
      simp only [show ¬ (4 = 1) by decide, if_false] at ha
      split at H
      ·rename_i r h' hR
       rw [put_eq] at H
       refine fin r h' (hstep r h' (by rw [if_neg (by decide)]; exact .inr (.inl ⟨rfl, ha, hR⟩))) ?_
       rw [if_pos (by omega)]; exact H
      ·exact H.elim
   ·exact H.elim
theorem QeK {ops : Array Oper} {ms : List Nat} (hm : ∀ (k i : Nat), (ms.getD k 0).testBit i = true → Anc ops i k) : ∀ (tr : List Tr), QfQ ops ms (tr.map fun t => (t.i, t.c)) = true → (∀ t ∈ tr, ops[t.i]? = some t.o) →
  tr.Pairwise (fun a b => clash ops a.o b.o a.c b.c = true → Anc ops a.i b.i)
 | [], _, _ => .nil
 | t :: l, h, ho => by
  simp only [Qp1, QfQ, Bool.and_eq_true, List.all_eq_true] at h
  refine List.pairwise_cons.2 ⟨fun b hb hc => ?_, QeK hm l h.2 fun t ht => ho t (by simp [ht])⟩
  have := h.1 (b.i, b.c) (List.mem_map.2 ⟨b, hb, rfl⟩)
  simp only [ho t (by simp), ho b (by simp [hb]), hc, Qp9, Bool.false_or] at this
  exact hm _ _ this
theorem Qeb : ∀ {l : List Nat}, Qmt l = true → l.Nodup
 | [], _ => List.nodup_nil
 | x :: l, h => by
  simp only [Qmt, Bool.and_eq_true, Bool.not_eq_true'] at h
  exact List.nodup_cons.2 ⟨by simpa using h.1, Qeb h.2⟩
theorem QfC {P : Program} {N : Nat} {ops : Array Oper} : ∀ {tr : List Tr} {tm : Nat → AV} {h : AH}, Runs P N ops tr tm h → ∀ t ∈ tr, ops[t.i]? = some t.o
 | [], _, _, _, t, ht => by cases ht
 | t :: l, tm, h, H, t', ht' => by
  cases H with
  | cons t l tm h ho hk hs hl =>
   rcases List.mem_cons.1 ht' with rfl | h'
   ·exact ho
   ·exact QfC hl t' h'
theorem Qit {ops : Array Oper} {listed : Array Bool} (hsz : listed.size = ops.size) (hr : Region.ready .any ops listed = []) : ∀ (l : List (Nat × Nat)) (pre : List Nat), topo ops pre l = true → (∀ i ∈ pre, listed.getD i false = true) → ∀ p ∈ l, listed.getD p.1 false = true
 | [], _, _, _, p, hp => by cases hp
 | (i, c) :: l, pre, h, hpre, p, hp => by
  simp only [topo, Bool.and_eq_true] at h
  have hi : listed.getD i false = true := by
   cases ho : ops[i]? with
   | none => simp [ho] at h
   | some o =>
    have hlt : i < ops.size := (Array.getElem?_eq_some_iff.1 ho).1
    cases hb : listed.getD i false with
    | true => rfl
    | false =>
     have : i ∈ Region.ready .any ops listed := mem_ready.2 ⟨by
      rw [Array.getD_eq_getD_getElem?, Array.getElem?_eq_getElem (by omega)] at hb ⊢
      simpa using hb, o, ho, fun e he hbd => by
       simp only [ho, List.all_eq_true] at h
       have := h.1 e (Array.mem_def.1 he)
       rw [hbd] at this
       exact hpre _ (by simpa using this)⟩
     rw [hr] at this; cases this
  rcases List.mem_cons.1 hp with rfl | hp'
  ·exact hi
  ·exact Qit hsz hr l (i :: pre) h.2 (fun j hj => by
    rcases List.mem_cons.1 hj with rfl | hj
    ·exact hi
    ·exact hpre j hj) p hp'
theorem Qml {listed : Array Bool} {i j : Nat} (hi : i < listed.size) : (listed.setIfInBounds i true).getD j false = (decide (j = i) || listed.getD j false) := by
 rw [Array.getD_eq_getD_getElem?, Array.getD_eq_getD_getElem?]
 by_cases h : j = i
 ·subst h; rw [Array.getElem?_setIfInBounds_self_of_lt hi]; simp
 ·rw [Array.getElem?_setIfInBounds_ne (fun e => h e.symm)]; simp [h]
theorem QlX {P : Program} {N : Nat} {base : Bs × Fence} {ops : Array Oper} {F : Fence} {n : Nat} (hF : WF F) {Qx : Exit → Act → World → Prop} {tr : List Tr} {tm0 : Nat → AV} {h0 : AH} (hruns : Runs P N ops tr tm0 h0)
  (hpw : tr.Pairwise (fun a b => clash ops a.o b.o a.c b.c = true → Anc ops a.i b.i)) (htopo : topo ops [] (tr.map fun t => (t.i, t.c)) = true) (hnd : (tr.map (·.i)).Nodup) (hall : ∀ i, i < ops.size → ∃ t ∈ tr, t.i = i) (hkind : ∀ t ∈ tr, kindOk t.o t.c = true) :
  ∀ (fuel : Nat) (listed : Array Bool) (c : Cx) (a : Act), listed.size = ops.size → Down ops (fun i => listed.getD i false) → St c → SR N base c ⟨tmS N (fun i => listed.getD i false) tr tm0, hS (fun i => listed.getD i false) tr h0⟩ a →
   tr.countP (fun t => !listed.getD t.i false) ≤ fuel →
   (∀ c' a', Ev c c' → St c' → SR N base c' ⟨tmS N (fun _ => true) tr tm0, hS (fun _ => true) tr h0⟩ a' → Qx .normal a' c'.w) → wpAnyIn F n P .any ops Qx fuel listed a c.w := by
 -- the end
 have done : ∀ (listed : Array Bool) (c : Cx) (a : Act), listed.size = ops.size → St c → SR N base c ⟨tmS N (fun i => listed.getD i false) tr tm0, hS (fun i => listed.getD i false) tr h0⟩ a →
   (∀ c' a', Ev c c' → St c' → SR N base c' ⟨tmS N (fun _ => true) tr tm0, hS (fun _ => true) tr h0⟩ a' → Qx .normal a' c'.w) → (∀ t ∈ tr, listed.getD t.i false = true) → Qx .normal a c.w := by
  intro listed c a hsz hst hr hQ hl
  refine hQ c a (Ev.refl c) hst ?_
  have e1 : tmS N (fun i => listed.getD i false) tr tm0 = tmS N (fun _ => true) tr tm0 := funext fun x => Qbc rfl fun t ht _ => hl t ht
  have e2 : hS (fun i => listed.getD i false) tr h0 = hS (fun _ => true) tr h0 := QbS fun t ht _ => hl t ht
  rw [e1, e2] at hr
  exact hr
 have ready0 : ∀ (listed : Array Bool), listed.size = ops.size → Region.ready .any ops listed = [] → ∀ t ∈ tr, listed.getD t.i false = true := fun listed hsz h t ht =>
  Qit hsz h _ [] htopo (fun i hi => by cases hi) (t.i, t.c) (List.mem_map.2 ⟨t, ht, rfl⟩)
 intro fuel
 induction fuel with
 | zero =>
  intro listed c a hsz hd hst hr hc hQ
  have hl : ∀ t ∈ tr, listed.getD t.i false = true := fun t ht => by
   have := List.countP_eq_zero.1 (Nat.le_zero.1 hc) t ht
   simpa using this
  refine ⟨?_, done listed c a hsz hst hr hQ hl⟩
  cases hrd : Region.ready .any ops listed with
  | nil => rfl
  | cons i l =>
   have hi : i ∈ Region.ready .any ops listed := by rw [hrd]; simp
   obtain ⟨h1, o, ho, _⟩ := mem_ready.1 hi
   have hlt : i < ops.size := (Array.getElem?_eq_some_iff.1 ho).1
   obtain ⟨t, ht, rfl⟩ := hall i hlt
   have := hl t ht
   rw [Array.getD_eq_getD_getElem?, Array.getElem?_eq_getElem (by omega)] at this h1
   simp only [Option.getD_some] at this h1
   rw [this] at h1; cases h1
 | succ fuel ih =>
  intro listed c a hsz hd hst hr hc hQ
  refine ⟨fun h => done listed c a hsz hst hr hQ (ready0 listed hsz h), fun i hi => ?_⟩
  obtain ⟨h1, o, ho, hedge⟩ := mem_ready.1 hi
  have hlt : i < ops.size := (Array.getElem?_eq_some_iff.1 ho).1
  have hSi : listed.getD i false = false := by
   rw [Array.getD_eq_getD_getElem?, Array.getElem?_eq_getElem (by omega)] at h1 ⊢
   simpa using h1
  obtain ⟨t, ht, rfl⟩ := hall i hlt
  obtain ⟨pre, post, htr⟩ := List.append_of_mem ht
  have hto : t.o = o := by
   have := QfC hruns t ht
   rw [ho] at this; cases this; rfl
  subst hto
  -- the set with it
  have hS' : ∀ j, (listed.setIfInBounds t.i true).getD j false = (decide (j = t.i) || listed.getD j false) := fun j => Qml (by omega)
  have hd' : Down ops (fun j => (listed.setIfInBounds t.i true).getD j false) := by
   intro j oj hoj hj e he hb
   dsimp only at hj ⊢
   rw [hS'] at hj ⊢
   by_cases hji : j = t.i
   ·subst hji
    rw [ho] at hoj; cases hoj
    rw [hedge e he hb]; simp
   ·have : listed.getD j false = true := by simpa [hji] using hj
    have h2 : listed.getD e.on false = true := hd j oj hoj this e he hb
    rw [h2]; simp
  have hanc : ∀ j, Anc ops j t.i → j ≠ t.i → listed.getD j false = true := fun j hj hne => by
   have := hd'.anc hj (by show _ = true; rw [hS']; simp)
   have h2 : (listed.setIfInBounds t.i true).getD j false = true := this
   rw [hS'] at h2
   simpa [hne] using h2
  have hnot : ∀ j, Anc ops t.i j → listed.getD j false = false := fun j hj => by
   cases hb : listed.getD j false with
   | false => rfl
   | true => have := hd.anc hj hb; rw [hSi] at this; cases this
  -- the others
  have hne : ∀ b, b ∈ pre ∨ b ∈ post → b.i ≠ t.i := by
   rw [htr] at hnd
   simp only [List.map_append, Qp1] at hnd
   obtain ⟨n1, n2, n3⟩ := List.nodup_append.1 hnd
   intro b hb e
   rcases hb with hb | hb
   ·exact n3 b.i (List.mem_map.2 ⟨b, hb, rfl⟩) t.i (by simp) e
   ·exact (List.nodup_cons.1 n2).1 (List.mem_map.2 ⟨b, hb, e⟩)
  rw [htr] at hpw
  obtain ⟨p1, p2, p3⟩ := List.pairwise_append.1 hpw
  obtain ⟨p4, p5⟩ := List.pairwise_cons.1 p2
  have hpre : ∀ b ∈ pre, clash ops b.o t.o b.c t.c = true → listed.getD b.i false = true := fun b hb hcl => hanc _ (p3 b hb t (by simp) hcl) (hne b (.inl hb))
  have hpost : ∀ b ∈ post, clash ops t.o b.o t.c b.c = true → listed.getD b.i false = false := fun b hb hcl => hnot _ (p4 b hb hcl)
  have hsame : ∀ b, b ∈ pre ∨ b ∈ post → (listed.setIfInBounds t.i true).getD b.i false = listed.getD b.i false := fun b hb => by
   rw [hS']; simp [hne b hb]
  -- what it looks at
  have hsplit := hruns
  rw [htr] at hsplit
  have hs2 := Runs.split hsplit
  have hstep : StepA P ops (tmS N (fun _ => true) pre tm0) (hS (fun _ => true) pre h0) t.c t.o t.r t.h' := by cases hs2 with | cons _ _ _ _ _ _ hs _ => exact hs
  have hk : kindOk t.o t.c = true := hkind t ht
  have hreads : ∀ x ∈ readsOf ops t.o, tmS N (fun i => listed.getD i false) tr tm0 x = tmS N (fun _ => true) pre tm0 x := by
   intro x hx
   rw [htr, Qfx, Qbz]
   ·refine Qbc rfl fun b hb hbd => hpre b hb ?_
    unfold clash; rw [hbd]; simp [hx]
   ·intro b hb hbS hbd
    rcases List.mem_cons.1 hb with rfl | hb
    ·rw [hSi] at hbS; cases hbS
    ·rw [hpost b hb (by unfold clash; rw [hbd]; simp [hx])] at hbS; cases hbS
  have hclash2 : ∀ b ∈ pre, 2 ≤ b.c → t.c ≠ 1 → listed.getD b.i false = true := fun b hb h2 ht1 => hpre b hb (by unfold clash; simp [h2, ht1])
  have hheapPre : t.c ≠ 1 → hS (fun i => listed.getD i false) pre h0 = hS (fun _ => true) pre h0 := fun ht1 => QbS fun b hb h2 => hclash2 b hb h2 ht1
  have hh : (2 ≤ t.c ∧ hS (fun i => listed.getD i false) tr h0 = hS (fun _ => true) pre h0) ∨ (t.c < 2 ∧ (t.c = 1 ∨ Keep (hS (fun _ => true) pre h0) (hS (fun i => listed.getD i false) tr h0))) := by
   by_cases hc2 : 2 ≤ t.c
   ·refine .inl ⟨hc2, ?_⟩
    rw [htr, QgW, Qdd, hheapPre (by omega)]
    intro b hb hbc
    rcases List.mem_cons.1 hb with rfl | hb
    ·exact hSi
    ·have h1 : b.c ≠ 1 := by omega
     exact hpost b hb (by unfold clash; simp [hc2, h1])
   ·refine .inr ⟨by omega, ?_⟩
    by_cases hc1 : t.c = 1
    ·exact .inl hc1
    ·refine .inr ?_
     rw [htr, QgW, hheapPre hc1]
     refine Runs.keep hs2 ?_ ?_
     ·intro b hb hbc hbS
      rcases List.mem_cons.1 hb with rfl | hb
      ·exact (hc2 hbc).elim
      ·cases hadd : ((QbQ b.o.op && b.c != 4) || b.c == 3) with
       | true => rfl
       | false =>
        rw [hpost b hb (by unfold clash; rw [hadd]; simp [hc1, hc2, hbc])] at hbS; cases hbS
     ·refine p2.imp ?_
      intro x y hxy hx hy hyS
      have h1 : y.c ≠ 1 := by omega
      exact hd.anc (hxy (by unfold clash; simp [hx, h1])) hyS
  -- the state behind it
  have hpreS : tmS N (fun i => (listed.setIfInBounds t.i true).getD i false) pre tm0 = tmS N (fun i => listed.getD i false) pre tm0 := funext fun x => Qbc rfl fun b hb _ => hsame b (.inl hb)
  have hpreH : hS (fun i => (listed.setIfInBounds t.i true).getD i false) pre h0 = hS (fun i => listed.getD i false) pre h0 := QbS fun b hb _ => hsame b (.inl hb)
  have hSt : (listed.setIfInBounds t.i true).getD t.i false = true := by rw [hS']; simp
  have hstm : tmS N (fun i => (listed.setIfInBounds t.i true).getD i false) tr tm0 = putT N (tmS N (fun i => listed.getD i false) tr tm0) t.o.dst t.r := by
   funext x
   rw [htr, Qfx, Qfx, hpreS]
   simp only [tmS, hSt, hSi, if_true, QpQ, if_false]
   by_cases hdx : t.o.dst = some x
   ·have hskip : ∀ b ∈ post, b.o.dst = some x → listed.getD b.i false = false := fun b hb hbd => hpost b hb (by unfold clash; rw [hdx, hbd]; simp)
    rw [Qbz (fun b hb hbS hbd => by rw [hsame b (.inr hb), hskip b hb hbd] at hbS; cases hbS)]
    have e := Qbz (N := N) (S := fun i => listed.getD i false) (x := x) (l := post) (f := tmS N (fun i => listed.getD i false) pre tm0) (fun b hb hbS hbd => by rw [hskip b hb hbd] at hbS; cases hbS)
    exact QeI (fun _ => e.symm) (.inl e.symm)
   ·rw [Qe8 hdx]
    exact Qbc (Qe8 hdx) fun b hb _ => hsame b (.inr hb)
  have hshp : hS (fun i => (listed.setIfInBounds t.i true).getD i false) tr h0 = if 2 ≤ t.c then t.h' else hS (fun i => listed.getD i false) tr h0 := by
   rw [htr, QgW, QgW, hpreH]
   simp only [hS, hSt, hSi, Qqw, Bool.false_and, QpQ, if_false, decide_eq_true_eq]
   by_cases hc2 : 2 ≤ t.c
   ·rw [if_pos hc2, if_pos hc2]
    refine Qdd fun b hb hbc => ?_
    rw [hsame b (.inr hb)]
    have h1 : b.c ≠ 1 := by omega
    exact hpost b hb (by unfold clash; simp [hc2, h1])
   ·rw [if_neg hc2, if_neg hc2]
    exact QbS fun b hb _ => hsame b (.inr hb)
  have hcount : tr.countP (fun u => !(listed.setIfInBounds t.i true).getD u.i false) ≤ fuel := by
   rw [htr] at hc ⊢
   simp only [List.countP_append, List.countP_cons, hSt, hSi, Qp9, Qqa, QpQ, if_false, if_true] at hc ⊢
   have c1 : pre.countP (fun u => !(listed.setIfInBounds t.i true).getD u.i false) = pre.countP (fun u => !listed.getD u.i false) := List.countP_congr fun b hb => by rw [hsame b (.inl hb)]
   have c2 : post.countP (fun u => !(listed.setIfInBounds t.i true).getD u.i false) = post.countP (fun u => !listed.getD u.i false) := List.countP_congr fun b hb => by rw [hsame b (.inr hb)]
   rw [c1, c2]; omega
  have next : ∀ c' a', Ev c c' → St c' → SR N base c' (AS.put N ⟨tmS N (fun i => listed.getD i false) tr tm0, if 2 ≤ t.c then t.h' else hS (fun i => listed.getD i false) tr h0⟩ t.o.dst t.r) a' →
    wpAnyIn F n P .any ops Qx fuel (listed.setIfInBounds t.i true) a' c'.w := by
   intro c' a' hev hst' hr'
   rw [put_eq, ← hstm, ← hshp] at hr'
   exact ih _ c' a' (by simpa using hsz) hd' hst' hr' hcount fun c2 a2 e2 s2 r2 => hQ c2 a2 (Ev.trans hst hev e2) s2 r2
  unfold wpOpIn
  simp only [ho]
  rcases hstep.turn hk hreads hh N with ⟨hw, hru, hhe⟩ | ⟨hw, hop | hop⟩
  ·rw [XN hr hw]
   simp only [QpQ, if_false]
   refine ⟨fun f _ => hF.fn f, ?_⟩
   have hr' := hr.put hst (Ev.refl c) t.o.dst (.v undef)
   rw [hr.h] at hr'
   refine next c _ (Ev.refl c) hst ?_
   rw [hhe, hru]
   exact hr'
  ·rw [XN hr hw]
   simp only [if_true]
   refine QdB (hop (fun s' => s' = AS.put N ⟨tmS N (fun i => listed.getD i false) tr tm0, if 2 ≤ t.c then t.h' else hS (fun i => listed.getD i false) tr h0⟩ t.o.dst t.r) (fun _ _ => False) rfl) hF hst hr ?_ ?_
   ·intro s' c' a' hs hev hst' hr'
    subst hs
    exact next c' a' hev hst' hr'
   ·intro r s' c' x hf
    exact hf.elim
  ·rw [XN hr hw]
   simp only [if_true]
   refine Qjh (K := fun s' => s' = AS.put N ⟨tmS N (fun i => listed.getD i false) tr tm0, if 2 ≤ t.c then t.h' else hS (fun i => listed.getD i false) tr h0⟩ t.o.dst t.r) hop rfl hF hst hr ?_
   intro s' c' a' hs hev hst' hr'
   subst hs
   exact next c' a' hev hst' hr'
theorem QG {P : Program} {N : Nat} {Q : AExit → AS → Prop} {s : AS} {id : Nat} {ops : Array Oper} (π : List (Nat × Nat)) (hm : P.follows .mixedOrders = true) (hok : QnB ops π = true)
  (H : ∀ (K : AS → Prop), (∀ s, Q .normal s → K s) → AnyW P N ops π K s) : Xz P N (.region id ops true) Q s := by
 intro F n base c a hF hst hr R hR
 refine wpIn_region_any hm ?_
 obtain ⟨tm, hp⟩ := s
 simp only [QnB, Bool.and_eq_true] at hok
 obtain ⟨⟨⟨⟨⟨hp0, hp1⟩, hp2⟩, hp3⟩, hp4⟩, hp5⟩ := hok
 obtain ⟨tr, rfl, hruns, hK⟩ := Qg9 (H _ (fun s h => h)) hp5
 have hev : Ev c (c.to { c.w with drawn := c.w.drawn + 1 }) := Ev.idle hst (Ev.refl c) rfl rfl rfl rfl fun k => .inl rfl
 have hst' : St (c.to { c.w with drawn := c.w.drawn + 1 }) := hst.idle rfl fun k o hk => .inl hk
 have hr' : SR N (base, F) (c.to { c.w with drawn := c.w.drawn + 1 }) ⟨tm, hp⟩ a := ⟨hr.h, hr.size, Nat.le_trans hr.above hev.size, hr.defers.ev hev, RoundOk.ev hev hr.round, fun t => (hr.tm t).ev hst hev⟩
 have hops := QfC hruns
 have hnone : ∀ j, (Array.replicate ops.size false).getD j false = false := fun j => by
  rw [Array.getD_eq_getD_getElem?, Array.getElem?_replicate]
  split <;> rfl
 refine QlX (base := (base, F)) hF hruns (QeK (Qek ops.toList [] (fun j o h => by simpa using h) (fun k i h => by simp at h)) tr hp1 hops) hp2 ?_ ?_ ?_ _ _ (c.to { c.w with drawn := c.w.drawn + 1 }) a (by simp) ?_ hst' ?_ ?_ ?_
 ·have := Qeb hp3
  rw [List.map_map] at this
  exact this
 ·intro i hi
  have := List.all_eq_true.1 hp4 i (List.mem_range.2 hi)
  have : i ∈ (tr.map fun t => (t.i, t.c)).map (·.1) := by simpa using this
  rw [List.map_map] at this
  obtain ⟨t, ht, rfl⟩ := List.mem_map.1 this
  exact ⟨t, ht, rfl⟩
 ·intro t ht
  have := List.all_eq_true.1 hp5 (t.i, t.c) (List.mem_map.2 ⟨t, ht, rfl⟩)
  simpa [hops t ht] using this
 ·intro j o ho hj
  simp only at hj
  rw [hnone] at hj; cases hj
 ·have e1 : tmS N (fun i => (Array.replicate ops.size false).getD i false) tr tm = tm := funext fun x => Qbz fun t _ h => by rw [hnone] at h; cases h
  have e2 : hS (fun i => (Array.replicate ops.size false).getD i false) tr hp = hp := Qdd fun t _ _ => hnone _
  rw [e1, e2]; exact hr'
 ·-- asx many asx there are
  have : tr.length ≤ ops.size := by
   have := beq_iff_eq.1 hp0
   simp only [List.length_map] at this; omega
  exact Nat.le_trans List.countP_le_length this
 ·intro c' a' h1 h2 h3
  exact hR _ _ c' a' _ hK (Ev.trans hst hev h1) h2 h3 rfl
theorem Qu {P : Program} {N : Nat} {Q : AExit → AS → Prop} {s : AS} {id : Nat} {ops : Array Oper} {y : Code} (π : List (Nat × Nat)) (hm : P.follows .mixedOrders = true) (hok : QnB ops π = true)
  (H : ∀ (K : AS → Prop), (∀ s, Xz P N y Q s → K s) → AnyW P N ops π K s) : Xz P N (.seq (.region id ops true) y) Q s :=
 Qbg (QG π hm hok fun K hK => H K hK)
section
variable (P : Program) (N : Nat) (ops : Array Oper) (tm : Nat → AV) (h : AH) (K : AS → Prop)
theorem Ql4 : AnyW P N ops [] K ⟨tm, h⟩ = K ⟨tm, h⟩ := rfl
theorem Qlf (i c : Nat) (l : List (Nat × Nat)) : AnyW P N ops ((i, c) :: l) K ⟨tm, h⟩ = (match ops[i]? with | some o => AnyO P N ops c o ⟨tm, h⟩ (AnyW P N ops l K) | none => False) := rfl
theorem Qnj (c : Nat) (o : Oper) : AnyO P N ops c o ⟨tm, h⟩ K = (match Qf ops tm o with
 | some false => K (AS.put N ⟨tm, h⟩ o.dst (.v undef))
 | some true =>
  match o.op with
  | .call ⟨.value f, args, tys⟩ => if 2 ≤ c then QnE P N c (AS.ev ⟨tm, h⟩ f) (args.toList.map (AS.ev ⟨tm, h⟩)) ⟨tm, h⟩ o.dst K else if c = 0 then Qm9 P N (AS.ev ⟨tm, h⟩ f) (args.toList.map (AS.ev ⟨tm, h⟩)) ⟨tm, h⟩ o.dst K else Qnh P N (AS.ev ⟨tm, h⟩ f) (args.toList.map (AS.ev ⟨tm, h⟩)) ⟨tm, h⟩ o.dst K
  | op => if c = 5 then (match tokA P (AS.ev ⟨tm, h⟩) h op with
    | some (r, h') => K (AS.put N ⟨tm, h'⟩ o.dst r)
    | none => False) else match aop P (AS.ev ⟨tm, h⟩) o.type (if c = 1 then [] else h) op with
   | some (r, h') => K (AS.put N ⟨tm, if c = 1 then h else h'⟩ o.dst r)
   | none => c = 4 ∧ match aopR P (AS.ev ⟨tm, h⟩) h op with
    | some (r, h') => K (AS.put N ⟨tm, h'⟩ o.dst r)
    | none => False
 | none => False) := rfl
end
end Go.Proofs.YtniljpjjnmkoaaaGreatDoor.Ab
namespace Go.Proofs.YtniljpjjnmkoaaaGreatDoor.Ab
theorem Qef {c : Cx} (e s : Nat) : ∀ b, some c.h.length = some b → (c.add c.w (.grow e s 0) none).tokNil b s := by
 intro b hb
 cases hb
 refine ⟨by simp [Cx.add], fun e2 s2 n2 hg2 => ?_⟩
 simp [Cx.add] at hg2
 exact ⟨hg2.2.1.symm, fun _ => by simp [Cx.add]⟩
theorem XQ {P : Program} {N : Nat} {code : Code} {Q : AExit → AS → Prop} {tm : Nat → AV} {h : AH} (d e s : Nat) (hd : tm d = .v (.slice none 0 0))
  (H : Xz P N code Q ⟨upd tm d (.sl s [] (some h.length)), h ++ [.grow e s 0]⟩) : Xz P N code Q ⟨tm, h⟩ := by
 intro F n base c a hF hst hr R hR
 have hh : c.h = h := hr.h
 subst hh
 have hg := Grows.refl c.w
 have ho : ∀ B, (none : Option Nat) = some B → c.w.heap.size ≤ B := fun B h => by cases h
 have hev := Ev.add hst hg (.grow e s 0) none ho
 have hρ : (c.add c.w (.grow e s 0) none).ρ c.h.length = none := by simp [Cx.add]
 have hst' : St (c.add c.w (.grow e s 0) none) := St.add hst hg _ _ ho (fun B hB => by rw [hρ] at hB; cases hB)
 refine H F n base (c.add c.w (.grow e s 0) none) a hF hst' ⟨rfl, hr.size, hr.above, hr.defers.ev hev, RoundOk.ev hev hr.round, fun t => ?_⟩ R fun e' s' c' a' ex hq h1 h2 h3 h4 => hR e' s' c' a' ex hq (Ev.trans hst hev h1) h2 h3 h4
 simp only [upd]
 split
 ·rename_i ht
  subst ht
  have h1 := hr.tm t
  simp only [hd] at h1
  generalize hu : a.tmps.getD t undef = u at h1
  cases h1
  exact .slnil _ _ (Qef e s)
 ·exact (hr.tm t).ev hst hev
inductive T where
 | mk (kind int : Int) (name : ByteArray) (args : List T)
 deriving Inhabited
def T.kind : T → Int | .mk k _ _ _ => k
def T.int : T → Int | .mk _ i _ _ => i
def T.name : T → ByteArray | .mk _ _ n _ => n
def T.args : T → List T | .mk _ _ _ l => l
mutual
def T.av : T → AV
 | .mk k i n l => .agg [.v (.int .i64 k), .v (.int .i64 i), .v (.string n), .sl 4 (avs l) none]
def avs : List T → List AV
 | [] => []
 | t :: l => t.av :: avs l
end
theorem YO : ∀ l : List T, avs l = l.map T.av
 | [] => rfl
 | t :: l => by simp only [avs, Qp1, YO l]
theorem Qam : avs [] = [] := rfl
theorem Zo (l : List T) : (avs l).length = l.length := by rw [YO, List.length_map]
theorem Ye (l m : List T) : avs (l ++ m) = avs l ++ avs m := by simp only [YO, List.map_append]
theorem Zi (t : T) : avs [t] = [t.av] := rfl
theorem Q3 {l : List T} {k : Nat} (h : k < l.length) : (avs l)[k]? = some (l[k]).av := by
 rw [YO, List.getElem?_map, List.getElem?_eq_getElem h]; rfl
theorem T.Qo3 (t : T) : t.av.cells = [.v (.int .i64 t.kind), .v (.int .i64 t.int), .v (.string t.name), .sl 4 (avs t.args) none] := by cases t; rfl
theorem T.Qpx (t : T) : t.av.isAgg = true := by cases t; rfl
theorem T.Qo9 (k i : Int) (n : ByteArray) (l : List T) : AV.agg [.v (.int .i64 k), .v (.int .i64 i), .v (.string n), .sl 4 (avs l) none] = (T.mk k i n l).av := by simp only [T.av]
mutual
theorem T.Qo0 (n : Nat) : ∀ t : T, Below n t.av
 | .mk k i nm l => by
  simp only [T.av]
  refine .agg _ fun a ha => ?_
  simp only [List.mem_cons, List.not_mem_nil, or_false] at ha
  rcases ha with rfl | rfl | rfl | rfl
  ·exact .v _
  ·exact .v _
  ·exact .v _
  ·exact .sl 4 _ none (YE n l) (fun b hb => by cases hb)
theorem YE (n : Nat) : ∀ l : List T, ∀ a ∈ flat (avs l), Below n a
 | [], a, ha => by simp [avs, flat] at ha
 | t :: l, a, ha => by
  simp only [avs, Xs, List.mem_append] at ha
  rcases ha with ha | ha
  ·have h1 := T.Qo0 n t
   cases t with
   | mk k i nm l' =>
    simp only [T.av] at h1
    cases h1 with
    | agg _ h => exact h a (by simpa only [T.av, AV.cells] using ha)
  ·exact YE n l a ha
end
theorem X0 (n : Nat) (l : List T) : Below n (.sl 4 (avs l) none) := .sl 4 _ none (YE n l) (fun b hb => by cases hb)
def ints (l : List Int) : List AV := l.map fun n => .v (.int .i64 n)
theorem Xb (l : List Int) : (ints l).length = l.length := List.length_map _
theorem Ql2 : ints [] = [] := rfl
theorem Qiv (n : Int) : ints [n] = [.v (.int .i64 n)] := rfl
theorem XI (l m : List Int) : ints (l ++ m) = ints l ++ ints m := List.map_append
theorem XK {l : List Int} {k : Nat} (h : k < l.length) : (ints l)[k]? = some (.v (.int .i64 l[k])) := by
 rw [ints, List.getElem?_map, List.getElem?_eq_getElem h]; rfl
theorem Yh (n : Nat) (l : List Int) : ∀ a ∈ flat (ints l), Below n a := by
 intro a ha
 simp only [flat, ints, List.mem_flatMap, List.mem_map] at ha
 obtain ⟨x, ⟨y, _, rfl⟩, hx⟩ := ha
 simp only [AV.cells, List.mem_singleton] at hx
 subst hx
 exact .v _
theorem Qed (n : Nat) (l : List Int) : Below n (.sl 1 (ints l) none) := .sl 1 _ none (Yh n l) (fun b hb => by cases hb)
theorem rng0 : List.range 0 = [] := rfl
theorem rng1 : List.range 1 = [0] := rfl
theorem rng2 : List.range 2 = [0, 1] := rfl
theorem rng3 : List.range 3 = [0, 1, 2] := rfl
theorem rng4 : List.range 4 = [0, 1, 2, 3] := rfl
theorem rng5 : List.range 5 = [0, 1, 2, 3, 4] := rfl
theorem rng6 : List.range 6 = [0, 1, 2, 3, 4, 5] := rfl
theorem rng7 : List.range 7 = [0, 1, 2, 3, 4, 5, 6] := rfl
theorem rng8 : List.range 8 = [0, 1, 2, 3, 4, 5, 6, 7] := rfl
theorem QkD {α : Type} (p : α → Bool) (x : α) : Option.any p (some x) = p x := rfl
def Pure (P : Program) (f : FuncId) (args : List AV) (r : AV) : Prop := ∀ h, Xf P f args h fun o h' => o = .ret r ∧ h' = h
theorem Qp {P : Program} {f : FuncId} {args : List AV} {r : AV} {h : AH} {C : AOut → AH → Prop} (H : Pure P f args r) (k : C (.ret r) h) : FunW P (.fn (.func f) [] []) args h C := by
 refine FunW.fn ?_
 rw [List.nil_append, List.append_nil]
 exact (H h).mono (by rintro _ _ ⟨rfl, rfl⟩; exact k)
theorem Qz {P : Program} {N : Nat} {f : FuncId} {args : List AV} {r : AV} {s : AS} {d : Option Tmp} {K : AS → Prop} (H : Pure P f args r) (k : K (AS.put N s d r)) : Qnh P N (.fn (.func f) [] []) args s d K :=
 ⟨r, fun hx => Qp H ⟨rfl, rfl⟩, k⟩
theorem Qm3 {N e n : Nat} {s : AS} {d : Option Tmp} {K : AS → Prop} (k : K (AS.put N { s with h := s.h ++ [.grow e n 0] } d (.sl n [] (some s.h.length)))) : RowW N e n s d K := .inl k
theorem Qm1 {N e n : Nat} {s : AS} {d : Option Tmp} {K : AS → Prop} (k : K (AS.put N { s with h := s.h ++ [.dead] } d (.sl n [] (some s.h.length)))) : RowW N e n s d K := .inr k
theorem Qc {h h' : AH} {r r' : AV} {Q : AV → AH → Prop} (ht : h'.take h.length = h) (hf : Frz h' h.length r r') (hq : Q r' h) : Leaves h h' r Q := by
 refine .inl ⟨h.length, r', Nat.le_refl _, ?_, .inl ht, hf, by rw [ht]; exact hq⟩
 have := congrArg List.length ht
 rw [List.length_take] at this
 omega
theorem QlB (h : AH) : h.take h.length = h := List.take_length
theorem Xp {n : Int} (h : -9223372036854775808 ≤ n ∧ n ≤ 9223372036854775807) : IntKind.i64.wrap n = n := IntWalk.i64_in n h
theorem QP {n : Nat} (h : n ≤ 9223372036854775806) : IntKind.i64.wrap ((n : Int) + 1) = ((n + 1 : Nat) : Int) := by
 rw [Xp (by omega)]; omega
theorem Qb1 {h h' : AH} {r : AV} {Q : AV → AH → Prop} (hq : Q r h') : Leaves h h' r Q := .inr hq
def T.uses (t : T) : List T := if t.kind = 2 then t.args else []
mutual
def T.size : T → Nat
 | .mk k _ _ l => 1 + (if k = 2 then sizes l else 0)
def sizes : List T → Nat
 | [] => 0
 | t :: l => t.size + sizes l
end
theorem T.size_eq (t : T) : t.size = 1 + sizes t.uses := by
 cases t with | mk k i n l => simp only [T.size, T.uses, T.kind, T.args]; by_cases hk : k = 2 <;> simp [hk, sizes]
theorem Qcs (l m : List T) : sizes (l ++ m) = sizes l + sizes m := by
 induction l with
 | nil => simp [sizes]
 | cons t l ih => simp only [Qqe, sizes, ih]; omega
theorem Qah {l : List T} {k : Nat} (h : k < l.length) : sizes (l.take (k + 1)) = sizes (l.take k) + (l[k]).size := by
 rw [List.take_succ_eq_append_getElem h, Qcs]; simp [sizes]
theorem Qbx (l : List T) (k : Nat) : sizes (l.take k) ≤ sizes l := by
 have := Qcs (l.take k) (l.drop k)
 rw [List.take_append_drop] at this
 omega
theorem size_pos (t : T) : 1 ≤ t.size := by rw [T.size_eq]; omega
theorem Qag (l : List T) : l.length ≤ sizes l := by
 induction l with
 | nil => simp
 | cons t l ih => have := size_pos t; simp only [QpZ, sizes]; omega
set_option maxRecDepth 4000
abbrev Qe := And.intro
 (And.intro
 (And.intro
 (And.intro
 (And.intro
 (And.intro
 (And.intro (@Ql4) (@Qlf))
 (And.intro (@Qnj) (@Q4)))
 (And.intro
 (And.intro (@Q2) (@List.isEmpty_nil.{0}))
 (And.intro (@List.isEmpty_cons.{0})
 (And.intro (@Qn6) (@Ql5)))))
 (And.intro
 (And.intro
 (And.intro (@QnJ) (@Q6))
 (And.intro (@QmB) (@QeV)))
 (And.intro
 (And.intro (@Xq) (@Qnm))
 (And.intro (@Qgc)
 (And.intro (@Qns) (@QhF))))))
 (And.intro
 (And.intro
 (And.intro
 (And.intro (@Qhy) (@QgP))
 (And.intro (@Qm8) (@Qer)))
 (And.intro
 (And.intro (@List.getD_cons_zero.{0}) (@List.getD_cons_succ.{0}))
 (And.intro (@Qkl)
 (And.intro (@Qnz) (@QmK)))))
 (And.intro
 (And.intro
 (And.intro (@QjW) (@Qko))
 (And.intro (@QjZ)
 (And.intro (@Ql6) (@Qmq))))
 (And.intro
 (And.intro (@Qj6) (@Qlk))
 (And.intro (@QnI)
 (And.intro (@QlM) (@Qlw)))))))
 (And.intro
 (And.intro
 (And.intro
 (And.intro
 (And.intro (@QjQ) (@QjL))
 (And.intro (@QlL) (@QmV)))
 (And.intro
 (And.intro (@QjT) (@List.all_cons.{0}))
 (And.intro (@List.all_nil.{0})
 (And.intro (@QkF) (@Qjf)))))
 (And.intro
 (And.intro
 (And.intro (@QlH) (@Qhx))
 (And.intro (@Qlv) (@QfJ)))
 (And.intro
 (And.intro (@QfB) (@QdU))
 (And.intro (@Qmz)
 (And.intro (@QkQ) (@Qkr))))))
 (And.intro
 (And.intro
 (And.intro
 (And.intro (@QjI) (@Qmi))
 (And.intro (@QlZ) (@QjY)))
 (And.intro
 (And.intro (@Bool.and_self) (@Bool.and_true))
 (And.intro (@Bool.true_and)
 (And.intro (@Bool.not_true) (@Bool.not_false)))))
 (And.intro
 (And.intro
 (And.intro (@List.length_cons.{0}) (@List.length_nil.{0}))
 (And.intro (@Nat.zero_add)
 (And.intro (@Nat.add_zero) (@true_and))))
 (And.intro
 (And.intro (@and_true) (@and_self))
 (And.intro (@Ym)
 (And.intro (@QgQ) (@Qfz))))))))
 (And.intro
 (And.intro
 (And.intro
 (And.intro
 (And.intro
 (And.intro (@hget) (@Qjx))
 (And.intro (@hset) (@hlen)))
 (And.intro
 (And.intro (@happ) (@List.getElem?_cons_zero.{0}))
 (And.intro (@List.getElem?_cons_succ.{0})
 (And.intro (@List.getElem?_nil.{0}) (@List.set_cons_zero.{0})))))
 (And.intro
 (And.intro
 (And.intro (@List.set_cons_succ.{0}) (@Option.map_some.{0,0}))
 (And.intro (@Option.map_none.{0,0}) (@Option.bind_some.{0,0})))
 (And.intro
 (And.intro (@Option.bind_none.{0,0}) (@Option.some.injEq.{0}))
 (And.intro (@List.toList_toArray.{0})
 (And.intro (@List.getElem?_toArray.{0}) (@List.map_cons.{0,0}))))))
 (And.intro
 (And.intro
 (And.intro
 (And.intro (@List.map_nil.{0,0}) (@List.cons_append.{0}))
 (And.intro (@List.nil_append.{0}) (@List.append_nil.{0})))
 (And.intro
 (And.intro (@List.take_succ_cons.{0}) (@List.take_zero.{0}))
 (And.intro (@List.drop_succ_cons.{0})
 (And.intro (@List.drop_zero.{0}) (@QnZ)))))
 (And.intro
 (And.intro
 (And.intro (@QnQ) (@QoB))
 (And.intro (@QnU)
 (And.intro (@QnM) (@Qow))))
 (And.intro
 (And.intro (@Qoe) (@Qoh))
 (And.intro (@QnR)
 (And.intro (@Qof) (@QoA)))))))
 (And.intro
 (And.intro
 (And.intro
 (And.intro
 (And.intro (@Qok) (@Qog))
 (And.intro (@Qng) (@Qnn)))
 (And.intro
 (And.intro (@Qnw) (@Qm6))
 (And.intro (@decide_true)
 (And.intro (@decide_false) (@beq_self_eq_true.{0})))))
 (And.intro
 (And.intro
 (And.intro (@bne_self_eq_false.{0}) (@Int.toNat_natCast))
 (And.intro (@Int.toNat_zero) (@Int.toNat_one)))
 (And.intro
 (And.intro (@Int.natCast_nonneg) (@Int.ofNat_lt))
 (And.intro (@Int.ofNat_le)
 (And.intro (@Int.natCast_zero) (@Bool.false_eq_true))))))
 (And.intro
 (And.intro
 (And.intro
 (And.intro (@Bool.true_eq_false) (@beq_true))
 (And.intro (@beq_false) (@rng0)))
 (And.intro
 (And.intro (@rng1) (@rng2))
 (And.intro (@rng3)
 (And.intro (@rng4) (@rng5)))))
 (And.intro
 (And.intro
 (And.intro (@rng6) (@rng7))
 (And.intro (@rng8)
 (And.intro (@QkD) (@Nat.zero_le))))
 (And.intro
 (And.intro (@Nat.zero_mul) (@T.Qo3))
 (And.intro (@T.Qpx)
 (And.intro (@Zo) (@Xb))))))))
open Go.Proofs
theorem ti3 : Xu Tryz.prog 3 = some (false, 1) := by kernel_rfl
theorem zi3 : Xy Tryz.prog 3 = some (.v (.int .i64 0)) := by kernel_rfl
theorem un3 : Program.underlying Tryz.prog 3 = some (.int .i64) := by kernel_rfl
theorem ti4 : Xu Tryz.prog 4 = some (false, 1) := by kernel_rfl
theorem zi4 : Xy Tryz.prog 4 = some (.v (.bool false)) := by kernel_rfl
theorem un4 : Program.underlying Tryz.prog 4 = some .bool := by kernel_rfl
theorem ti5 : Xu Tryz.prog 5 = some (false, 1) := by kernel_rfl
theorem zi5 : Xy Tryz.prog 5 = some (.v (.int .u8 0)) := by kernel_rfl
theorem un5 : Program.underlying Tryz.prog 5 = some (.int .u8) := by kernel_rfl
theorem ti9 : Xu Tryz.prog 9 = some (false, 1) := by kernel_rfl
theorem ei9 : Q5 Tryz.prog 9 = none := by kernel_rfl
theorem zi9 : Xy Tryz.prog 9 = some (.v (.string ⟨#[]⟩)) := by kernel_rfl
theorem un9 : Program.underlying Tryz.prog 9 = some .string := by kernel_rfl
theorem ti23 : Xu Tryz.prog 23 = some (false, 1) := by kernel_rfl
theorem ei23 : Q5 Tryz.prog 23 = some (52, 5) := by kernel_rfl
theorem ai23 : appInfo Tryz.prog 23 23 = some ⟨52, 5, 64⟩ := by kernel_rfl
theorem un23 : Program.underlying Tryz.prog 23 = some (.slice 52) := by kernel_rfl
theorem ti24 : Xu Tryz.prog 24 = some (false, 1) := by kernel_rfl
theorem ei24 : Q5 Tryz.prog 24 = some (48, 3) := by kernel_rfl
theorem ai24 : appInfo Tryz.prog 24 24 = some ⟨48, 3, 48⟩ := by kernel_rfl
theorem un24 : Program.underlying Tryz.prog 24 = some (.slice 48) := by kernel_rfl
theorem ti26 : Xu Tryz.prog 26 = some (true, 4) := by kernel_rfl
theorem YJ : fieldInfo Tryz.prog 26 0 = some (0, 3) := by kernel_rfl
theorem YX : fieldInfo Tryz.prog 26 1 = some (1, 23) := by kernel_rfl
theorem QaS : fieldInfo Tryz.prog 26 2 = some (2, 24) := by kernel_rfl
theorem Qm0 : fieldInfo Tryz.prog 26 3 = some (3, 4) := by kernel_rfl
theorem ti29 : Xu Tryz.prog 29 = some (false, 1) := by kernel_rfl
theorem ei29 : Q5 Tryz.prog 29 = some (41, 4) := by kernel_rfl
theorem ai29 : appInfo Tryz.prog 29 29 = some ⟨41, 4, 56⟩ := by kernel_rfl
theorem zi29 : Xy Tryz.prog 29 = some (.v (.slice none 0 0)) := by kernel_rfl
theorem un29 : Program.underlying Tryz.prog 29 = some (.slice 41) := by kernel_rfl
theorem ti30 : Xu Tryz.prog 30 = some (false, 1) := by kernel_rfl
theorem ei30 : Q5 Tryz.prog 30 = some (45, 2) := by kernel_rfl
theorem ai30 : appInfo Tryz.prog 30 30 = some ⟨45, 2, 40⟩ := by kernel_rfl
theorem un30 : Program.underlying Tryz.prog 30 = some (.slice 45) := by kernel_rfl
theorem ti32 : Xu Tryz.prog 32 = some (true, 3) := by kernel_rfl
theorem Qc1 : fieldInfo Tryz.prog 32 0 = some (0, 4) := by kernel_rfl
theorem QbF : fieldInfo Tryz.prog 32 1 = some (1, 29) := by kernel_rfl
theorem Zg : fieldInfo Tryz.prog 32 2 = some (2, 30) := by kernel_rfl
theorem zi32 : Xy Tryz.prog 32 = some (.agg [.v (.bool false), .v (.slice none 0 0), .v (.slice none 0 0)]) := by kernel_rfl
theorem sp32 : XC Tryz.prog 32 = some [(0, 1), (1, 1), (2, 1)] := by kernel_rfl
theorem ti41 : Xu Tryz.prog 41 = some (true, 4) := by kernel_rfl
theorem QX : fieldInfo Tryz.prog 41 0 = some (0, 3) := by kernel_rfl
theorem Q9 : fieldInfo Tryz.prog 41 1 = some (1, 3) := by kernel_rfl
theorem Xl : fieldInfo Tryz.prog 41 2 = some (2, 9) := by kernel_rfl
theorem Xc : fieldInfo Tryz.prog 41 3 = some (3, 29) := by kernel_rfl
theorem zi41 : Xy Tryz.prog 41 = some (.agg [.v (.int .i64 0), .v (.int .i64 0), .v (.string ⟨#[]⟩), .v (.slice none 0 0)]) := by kernel_rfl
theorem sp41 : XC Tryz.prog 41 = some [(0, 1), (1, 1), (2, 1), (3, 1)] := by kernel_rfl
theorem ti45 : Xu Tryz.prog 45 = some (true, 2) := by kernel_rfl
theorem YQ : fieldInfo Tryz.prog 45 0 = some (0, 9) := by kernel_rfl
theorem YK : fieldInfo Tryz.prog 45 1 = some (1, 29) := by kernel_rfl
theorem zi45 : Xy Tryz.prog 45 = some (.agg [.v (.string ⟨#[]⟩), .v (.slice none 0 0)]) := by kernel_rfl
theorem sp45 : XC Tryz.prog 45 = some [(0, 1), (1, 1)] := by kernel_rfl
theorem ti48 : Xu Tryz.prog 48 = some (true, 3) := by kernel_rfl
theorem Qdy : fieldInfo Tryz.prog 48 1 = some (1, 45) := by kernel_rfl
theorem zi48 : Xy Tryz.prog 48 = some (.agg [.v (.int .i64 0), .v (.string ⟨#[]⟩), .v (.slice none 0 0)]) := by kernel_rfl
theorem sp48 : XC Tryz.prog 48 = some [(0, 1), (1, 2)] := by kernel_rfl
theorem ti49 : Xu Tryz.prog 49 = some (false, 1) := by kernel_rfl
theorem ei49 : Q5 Tryz.prog 49 = some (3, 1) := by kernel_rfl
theorem ai49 : appInfo Tryz.prog 49 49 = some ⟨3, 1, 8⟩ := by kernel_rfl
theorem zi49 : Xy Tryz.prog 49 = some (.v (.slice none 0 0)) := by kernel_rfl
theorem un49 : Program.underlying Tryz.prog 49 = some (.slice 3) := by kernel_rfl
theorem ti52 : Xu Tryz.prog 52 = some (true, 5) := by kernel_rfl
theorem Xx : fieldInfo Tryz.prog 52 0 = some (0, 3) := by kernel_rfl
theorem Zc : fieldInfo Tryz.prog 52 1 = some (1, 41) := by kernel_rfl
theorem zi52 : Xy Tryz.prog 52 = some (.agg [.v (.int .i64 0), .v (.int .i64 0), .v (.int .i64 0), .v (.string ⟨#[]⟩), .v (.slice none 0 0)]) := by kernel_rfl
theorem sp52 : XC Tryz.prog 52 = some [(0, 1), (1, 4)] := by kernel_rfl
theorem ti76 : Xu Tryz.prog 76 = some (true, 2) := by kernel_rfl
theorem Qls : fieldInfo Tryz.prog 76 0 = some (0, 29) := by kernel_rfl
theorem Qly : fieldInfo Tryz.prog 76 1 = some (1, 30) := by kernel_rfl
theorem zi76 : Xy Tryz.prog 76 = some (.agg [.v (.slice none 0 0), .v (.slice none 0 0)]) := by kernel_rfl
theorem ei92 : Q5 Tryz.prog 92 = some (9, 1) := by kernel_rfl
theorem ai92 : appInfo Tryz.prog 92 92 = some ⟨9, 1, 16⟩ := by kernel_rfl
theorem un92 : Program.underlying Tryz.prog 92 = some (.slice 9) := by kernel_rfl
theorem XW : fieldInfo Tryz.prog 106 0 = some (0, 3) := by kernel_rfl
theorem QlW : Xy Tryz.prog 106 = some (.agg [.v (.int .i64 0)]) := by kernel_rfl
theorem QmD : XC Tryz.prog 106 = some [(0, 1)] := by kernel_rfl
theorem Qmb : Zn Tryz.prog 107 = some ((.int .i64), 108) := by kernel_rfl
theorem Qon : Xu Tryz.prog 108 = some (true, 0) := by kernel_rfl
theorem Ql3 : Xy Tryz.prog 108 = some (.agg []) := by kernel_rfl
theorem QnV : XC Tryz.prog 108 = some [] := by kernel_rfl
theorem QmO : Xu Tryz.prog 114 = some (false, 1) := by kernel_rfl
theorem QoD : Xy Tryz.prog 114 = some (.v (.pointer none)) := by kernel_rfl
theorem Qe9 : Xu Tryz.prog 115 = some (false, 1) := by kernel_rfl
theorem QoP : Xy Tryz.prog 115 = some (.v (.map none)) := by kernel_rfl
theorem QiL : Zn Tryz.prog 115 = some ((.int .i64), 3) := by kernel_rfl
theorem QoM : Program.underlying Tryz.prog 115 = some (.map 3 3) := by kernel_rfl
theorem Zq : Xu Tryz.prog 129 = some (false, 1) := by kernel_rfl
theorem Qn1 : Xu Tryz.prog 133 = some (false, 1) := by kernel_rfl
theorem QoC : Program.underlying Tryz.prog 133 = some (.pointer 136) := by kernel_rfl
theorem QlN : Xu Tryz.prog 134 = some (false, 1) := by kernel_rfl
theorem Qn3 : Q5 Tryz.prog 134 = some (5, 1) := by kernel_rfl
theorem Qn8 : appInfo Tryz.prog 134 134 = some ⟨5, 1, 1⟩ := by kernel_rfl
theorem QoL : Program.underlying Tryz.prog 134 = some (.slice 5) := by kernel_rfl
theorem Qka : fieldInfo Tryz.prog 136 0 = some (0, 133) := by kernel_rfl
theorem QeP : fieldInfo Tryz.prog 136 1 = some (1, 134) := by kernel_rfl
theorem QlF : Xu Tryz.prog 154 = some (false, 1) := by kernel_rfl
theorem QoX : Xy Tryz.prog 154 = some (.v .nilFunc) := by kernel_rfl
theorem Qox : Xu Tryz.prog 158 = some (false, 1) := by kernel_rfl
theorem QoK : Xy Tryz.prog 158 = some (.v .nilFunc) := by kernel_rfl
theorem XX : fieldInfo Tryz.prog 162 0 = some (0, 136) := by kernel_rfl
theorem QoU : Xy Tryz.prog 162 = some (.agg [.v (.pointer none), .v (.slice none 0 0)]) := by kernel_rfl
theorem Qnf : Xu Tryz.prog 172 = some (false, 1) := by kernel_rfl
theorem QoJ : Xy Tryz.prog 172 = some (.v (.map none)) := by kernel_rfl
theorem Qoo : Zn Tryz.prog 172 = some ((.int .i64), 4) := by kernel_rfl
theorem mixed : Tryz.prog.follows .mixedOrders = true := by kernel_rfl
def cmpI (a b : Int) : Int := if a < b then -1 else if a > b then 1 else 0
def cmpS (a b : ByteArray) : Int := if Op.bytesLess a.toList b.toList = true then -1 else if (!(Op.bytesLess a.toList b.toList || a.toList == b.toList)) = true then 1 else 0
def Xg (k : Int) : Int := if k = 1 then 0 else if k = 0 then 1 else if k = 2 then 2 else 3
abbrev AV.i (n : Int) : AV := .v (.int .i64 n)
abbrev AV.b (n : Bool) : AV := .v (.bool n)
abbrev AV.s (n : ByteArray) : AV := .v (.string n)
theorem Qhe (n : Int) : Pure Tryz.prog 128 [.i n] (.b false) := by
 intro h
 refine Qh Tryz.func128 rfl Tryz.call128 Tryz.ntmps128 (congrArg Array.toList Tryz.results128) (by simp) ?_
 repeat (first | (((with_reducible refine Qa fun K E hK hE => ?_)); simp -implicitDefEqProofs only [Qe, Qf, OpW, aop, undef, AS.ev, Qv, ↓reduceIte, aBin, seval]) | (with_reducible refine Qj ?_) | ((with_reducible refine hK _ ?_); clear hK))
 simp only [QD, Ql, Qr, upd, ↓reduceIte, QpS, QpW]; first | refine Qc (htake _ _) (.keep (.v _)) ⟨rfl, rfl⟩ | refine Qc List.take_length (.keep (.v _)) ⟨rfl, rfl⟩
theorem Qcl (n : ByteArray) : Pure Tryz.prog 129 [.s n] (.b false) := by
 intro h
 refine Qh Tryz.func129 rfl Tryz.call129 Tryz.ntmps129 (congrArg Array.toList Tryz.results129) (by simp) ?_
 repeat (first | (((with_reducible refine Qa fun K E hK hE => ?_)); simp -implicitDefEqProofs only [Qe, Qf, OpW, aop, undef, AS.ev, Qv, ↓reduceIte, aBin, seval]) | (with_reducible refine Qj ?_) | ((with_reducible refine hK _ ?_); clear hK))
 simp only [QD, Ql, Qr, upd, ↓reduceIte, QpS, QpW]; first | refine Qc (htake _ _) (.keep (.v _)) ⟨by simp, rfl⟩ | refine Qc List.take_length (.keep (.v _)) ⟨by simp, rfl⟩
theorem compareInt (a b : Int) : Pure Tryz.prog 89 [.i a, .i b] (.i (cmpI a b)) := by
 intro h
 have n1 := Qhe a
 have n2 := Qhe b
 by_cases h1 : a < b
 ·refine Qh Tryz.func89 rfl Tryz.call89 Tryz.ntmps89 (congrArg Array.toList Tryz.results89) (by simp) ?_
  repeat (first | ((first | (with_reducible (first | refine Qa fun K E hK hE => ?_ | refine Qp n1 ?_ | refine Qp n2 ?_))); simp -implicitDefEqProofs only [Qe, Qf, OpW, QK, aop, undef, AS.ev, Qv, ↓reduceIte, aBin, h1, seval]) | (with_reducible (first | refine Qd fun K hK => ?_ | refine Qj ?_ | refine Qn ?_ | refine Qb ?_ | refine Qq ?_)) | ((with_reducible refine hK _ ?_); clear hK) | (refine Qg rfl ?_; simp only [↓reduceIte, QpQ]))
  simp only [QD, Ql, Qr, upd, ↓reduceIte, QpS, QpW]; first | refine Qc (htake _ _) (.keep (.v _)) ⟨by rw [cmpI, if_pos h1], rfl⟩ | refine Qc List.take_length (.keep (.v _)) ⟨by rw [cmpI, if_pos h1], rfl⟩
 ·by_cases h2 : a > b
  ·refine Qh Tryz.func89 rfl Tryz.call89 Tryz.ntmps89 (congrArg Array.toList Tryz.results89) (by simp) ?_
   repeat (first | ((first | (with_reducible (first | refine Qa fun K E hK hE => ?_ | refine Qp n1 ?_ | refine Qp n2 ?_))); simp -implicitDefEqProofs only [Qe, Qf, OpW, QK, aop, undef, AS.ev, Qv, ↓reduceIte, aBin, h1, h2, seval]) | (with_reducible (first | refine Qd fun K hK => ?_ | refine Qj ?_ | refine Qn ?_ | refine Qb ?_ | refine Qq ?_)) | ((with_reducible refine hK _ ?_); clear hK) | (refine Qg rfl ?_; simp only [↓reduceIte, QpQ]))
   simp only [QD, Ql, Qr, upd, ↓reduceIte, QpS, QpW]; first | refine Qc (htake _ _) (.keep (.v _)) ⟨by rw [cmpI, if_neg h1, if_pos h2], rfl⟩ | refine Qc List.take_length (.keep (.v _)) ⟨by rw [cmpI, if_neg h1, if_pos h2], rfl⟩
  ·refine Qh Tryz.func89 rfl Tryz.call89 Tryz.ntmps89 (congrArg Array.toList Tryz.results89) (by simp) ?_
   repeat (first | ((first | (with_reducible (first | refine Qa fun K E hK hE => ?_ | refine Qp n1 ?_ | refine Qp n2 ?_))); simp -implicitDefEqProofs only [Qe, Qf, OpW, QK, aop, undef, AS.ev, Qv, ↓reduceIte, aBin, h1, h2, seval]) | (with_reducible (first | refine Qd fun K hK => ?_ | refine Qj ?_ | refine Qn ?_ | refine Qb ?_)) | ((with_reducible refine hK _ ?_); clear hK) | (refine Qg rfl ?_; simp only [↓reduceIte, QpQ]))
   simp only [QD, Ql, Qr, upd, ↓reduceIte, QpS, QpW]; first | refine Qc (htake _ _) (.keep (.v _)) ⟨by rw [cmpI, if_neg h1, if_neg h2], rfl⟩ | refine Qc List.take_length (.keep (.v _)) ⟨by rw [cmpI, if_neg h1, if_neg h2], rfl⟩
theorem Qbu (a b : ByteArray) : Pure Tryz.prog 91 [.s a, .s b] (.i (cmpS a b)) := by
 intro h
 have n1 := Qcl a
 have n2 := Qcl b
 cases h1 : Op.bytesLess a.toList b.toList with
 | true =>
  refine Qh Tryz.func91 rfl Tryz.call91 Tryz.ntmps91 (congrArg Array.toList Tryz.results91) (by simp) ?_
  repeat (first | ((first | (with_reducible (first | refine Qa fun K E hK hE => ?_ | refine Qp n1 ?_ | refine Qp n2 ?_))); simp -implicitDefEqProofs only [Qe, Qf, OpW, QK, aop, undef, AS.ev, Qv, ↓reduceIte, aBin, h1, seval]) | (with_reducible (first | refine Qd fun K hK => ?_ | refine Qj ?_ | refine Qn ?_ | refine Qb ?_ | refine Qq ?_)) | ((with_reducible refine hK _ ?_); clear hK) | (refine Qg rfl ?_; simp only [↓reduceIte, QpQ]))
  simp only [QD, Ql, Qr, upd, ↓reduceIte, QpS, QpW]; first | refine Qc (htake _ _) (.keep (.v _)) ⟨by rw [cmpS, if_pos h1], rfl⟩ | refine Qc List.take_length (.keep (.v _)) ⟨by rw [cmpS, if_pos h1], rfl⟩
 | false =>
  cases h2 : (a.toList == b.toList) with
  | true =>
   refine Qh Tryz.func91 rfl Tryz.call91 Tryz.ntmps91 (congrArg Array.toList Tryz.results91) (by simp) ?_
   repeat (first | ((first | (with_reducible (first | refine Qa fun K E hK hE => ?_ | refine Qp n1 ?_ | refine Qp n2 ?_))); simp -implicitDefEqProofs only [Qe, Qf, OpW, QK, aop, undef, AS.ev, Qv, ↓reduceIte, aBin, h1, h2, Bool.or_true, seval]) | (with_reducible (first | refine Qd fun K hK => ?_ | refine Qj ?_ | refine Qn ?_ | refine Qb ?_)) | ((with_reducible refine hK _ ?_); clear hK) | (refine Qg rfl ?_; simp only [↓reduceIte, QpQ]))
   simp only [QD, Ql, Qr, upd, ↓reduceIte, QpS, QpW]; first | refine Qc (htake _ _) (.keep (.v _)) ⟨by rw [cmpS, h1, h2]; rfl, rfl⟩ | refine Qc List.take_length (.keep (.v _)) ⟨by rw [cmpS, h1, h2]; rfl, rfl⟩
  | false =>
   refine Qh Tryz.func91 rfl Tryz.call91 Tryz.ntmps91 (congrArg Array.toList Tryz.results91) (by simp) ?_
   repeat (first | ((first | (with_reducible (first | refine Qa fun K E hK hE => ?_ | refine Qp n1 ?_ | refine Qp n2 ?_))); simp -implicitDefEqProofs only [Qe, Qf, OpW, QK, aop, undef, AS.ev, Qv, ↓reduceIte, aBin, h1, h2, Bool.or_self, seval]) | (with_reducible (first | refine Qd fun K hK => ?_ | refine Qj ?_ | refine Qn ?_ | refine Qb ?_ | refine Qq ?_)) | ((with_reducible refine hK _ ?_); clear hK) | (refine Qg rfl ?_; simp only [↓reduceIte, QpQ]))
   simp only [QD, Ql, Qr, upd, ↓reduceIte, QpS, QpW]; first | refine Qc (htake _ _) (.keep (.v _)) ⟨by rw [cmpS, h1, h2]; rfl, rfl⟩ | refine Qc List.take_length (.keep (.v _)) ⟨by rw [cmpS, h1, h2]; rfl, rfl⟩
theorem QbJ (a b : Int) : Pure Tryz.prog 94 [.i a, .i b] (.i (cmpI a b)) := by
 intro h
 by_cases h1 : a < b
 ·refine Qh Tryz.func94 rfl Tryz.call94 Tryz.ntmps94 (congrArg Array.toList Tryz.results94) (by simp) ?_
  repeat (first | (((with_reducible refine Qa fun K E hK hE => ?_)); simp -implicitDefEqProofs only [Qe, Qf, OpW, aop, undef, AS.ev, Qv, ↓reduceIte, aBin, h1, seval]) | (with_reducible (first | refine Qd fun K hK => ?_ | refine Qi ?_ | refine Qj ?_ | refine Qq ?_ | refine Qs ?_)) | ((with_reducible refine hK _ ?_); clear hK) | (refine Qg rfl ?_; simp only [↓reduceIte]))
  simp only [QD, Ql, Qr, upd, ↓reduceIte, QpS, QpW]; first | refine Qc (htake _ _) (.keep (.v _)) ⟨by rw [cmpI, if_pos h1], rfl⟩ | refine Qc List.take_length (.keep (.v _)) ⟨by rw [cmpI, if_pos h1], rfl⟩
 ·by_cases h2 : a > b
  ·refine Qh Tryz.func94 rfl Tryz.call94 Tryz.ntmps94 (congrArg Array.toList Tryz.results94) (by simp) ?_
   repeat (first | (((with_reducible refine Qa fun K E hK hE => ?_)); simp -implicitDefEqProofs only [Qe, Qf, OpW, aop, undef, AS.ev, Qv, ↓reduceIte, aBin, h1, h2, seval]) | (with_reducible (first | refine Qd fun K hK => ?_ | refine Qi ?_ | refine Qj ?_ | refine Qq ?_ | refine Qs ?_)) | ((with_reducible refine hK _ ?_); clear hK) | (refine Qg rfl ?_; simp only [↓reduceIte, QpQ]))
   simp only [QD, Ql, Qr, upd, ↓reduceIte, QpS, QpW]; first | refine Qc (htake _ _) (.keep (.v _)) ⟨by rw [cmpI, if_neg h1, if_pos h2], rfl⟩ | refine Qc List.take_length (.keep (.v _)) ⟨by rw [cmpI, if_neg h1, if_pos h2], rfl⟩
  ·refine Qh Tryz.func94 rfl Tryz.call94 Tryz.ntmps94 (congrArg Array.toList Tryz.results94) (by simp) ?_
   repeat (first | (((with_reducible refine Qa fun K E hK hE => ?_)); simp -implicitDefEqProofs only [Qe, Qf, OpW, aop, undef, AS.ev, Qv, ↓reduceIte, aBin, h1, h2, seval]) | (with_reducible (first | refine Qd fun K hK => ?_ | refine Qi ?_ | refine Qj ?_ | refine Qn ?_ | refine Qb ?_ | refine Qo ?_)) | ((with_reducible refine hK _ ?_); clear hK) | (refine Qg rfl ?_; simp only [↓reduceIte, QpQ]))
   simp only [QD, Ql, Qr, upd, ↓reduceIte, QpS, QpW]; first | refine Qc (htake _ _) (.keep (.v _)) ⟨by rw [cmpI, if_neg h1, if_neg h2], rfl⟩ | refine Qc List.take_length (.keep (.v _)) ⟨by rw [cmpI, if_neg h1, if_neg h2], rfl⟩
theorem QiA (a b : ByteArray) : Pure Tryz.prog 96 [.s a, .s b] (.i (cmpS a b)) := by
 intro h
 cases h1 : Op.bytesLess a.toList b.toList with
 | true =>
  refine Qh Tryz.func96 rfl Tryz.call96 Tryz.ntmps96 (congrArg Array.toList Tryz.results96) (by simp) ?_
  repeat (first | (((with_reducible refine Qa fun K E hK hE => ?_)); simp -implicitDefEqProofs only [Qe, Qf, OpW, aop, undef, AS.ev, Qv, ↓reduceIte, aBin, h1, seval]) | (with_reducible (first | refine Qd fun K hK => ?_ | refine Qi ?_ | refine Qj ?_ | refine Qq ?_ | refine Qs ?_)) | ((with_reducible refine hK _ ?_); clear hK) | (refine Qg rfl ?_; simp only [↓reduceIte]))
  simp only [QD, Ql, Qr, upd, ↓reduceIte, QpS, QpW]; first | refine Qc (htake _ _) (.keep (.v _)) ⟨by rw [cmpS, if_pos h1], rfl⟩ | refine Qc List.take_length (.keep (.v _)) ⟨by rw [cmpS, if_pos h1], rfl⟩
 | false =>
  cases h2 : (a.toList == b.toList) with
  | true =>
   refine Qh Tryz.func96 rfl Tryz.call96 Tryz.ntmps96 (congrArg Array.toList Tryz.results96) (by simp) ?_
   repeat (first | (((with_reducible refine Qa fun K E hK hE => ?_)); simp -implicitDefEqProofs only [Qe, Qf, OpW, aop, undef, AS.ev, Qv, ↓reduceIte, aBin, h1, h2, Bool.or_true, seval]) | (with_reducible (first | refine Qd fun K hK => ?_ | refine Qi ?_ | refine Qj ?_ | refine Qn ?_ | refine Qb ?_ | refine Qo ?_)) | ((with_reducible refine hK _ ?_); clear hK) | (refine Qg rfl ?_; simp only [↓reduceIte, QpQ]))
   simp only [QD, Ql, Qr, upd, ↓reduceIte, QpS, QpW]; first | refine Qc (htake _ _) (.keep (.v _)) ⟨by rw [cmpS, h1, h2]; rfl, rfl⟩ | refine Qc List.take_length (.keep (.v _)) ⟨by rw [cmpS, h1, h2]; rfl, rfl⟩
  | false =>
   refine Qh Tryz.func96 rfl Tryz.call96 Tryz.ntmps96 (congrArg Array.toList Tryz.results96) (by simp) ?_
   repeat (first | (((with_reducible refine Qa fun K E hK hE => ?_)); simp -implicitDefEqProofs only [Qe, Qf, OpW, aop, undef, AS.ev, Qv, ↓reduceIte, aBin, h1, h2, Bool.or_self, seval]) | (with_reducible (first | refine Qd fun K hK => ?_ | refine Qi ?_ | refine Qj ?_ | refine Qq ?_ | refine Qs ?_)) | ((with_reducible refine hK _ ?_); clear hK) | (refine Qg rfl ?_; simp only [↓reduceIte, QpQ]))
   simp only [QD, Ql, Qr, upd, ↓reduceIte, QpS, QpW]; first | refine Qc (htake _ _) (.keep (.v _)) ⟨by rw [cmpS, h1, h2]; rfl, rfl⟩ | refine Qc List.take_length (.keep (.v _)) ⟨by rw [cmpS, h1, h2]; rfl, rfl⟩
theorem Qhc (k : Int) : Pure Tryz.prog 90 [.i k] (.i (Xg k)) := by
 intro h
 by_cases h1 : k = 1
 ·have b1 : (k == 1) = true := by simpa using h1
  refine Qh Tryz.func90 rfl Tryz.call90 Tryz.ntmps90 (congrArg Array.toList Tryz.results90) (by simp) ?_
  repeat (first | (((with_reducible refine Qa fun K E hK hE => ?_)); simp -implicitDefEqProofs only [Qe, Qf, OpW, aop, undef, AS.ev, Qv, ↓reduceIte, aBin, b1, seval]) | (with_reducible (first | refine Qd fun K hK => ?_ | refine Qi ?_ | refine Qj ?_ | refine Qq ?_ | refine Qs ?_)) | ((with_reducible refine hK _ ?_); clear hK) | (refine Qg rfl ?_; simp only [↓reduceIte]))
  simp only [QD, Ql, Qr, upd, ↓reduceIte, QpS, QpW]; first | refine Qc (htake _ _) (.keep (.v _)) ⟨by rw [Xg, if_pos h1], rfl⟩ | refine Qc List.take_length (.keep (.v _)) ⟨by rw [Xg, if_pos h1], rfl⟩
 ·have b1 : (k == 1) = false := by simpa using h1
  by_cases h2 : k = 0
  ·have b2 : (k == 0) = true := by simpa using h2
   refine Qh Tryz.func90 rfl Tryz.call90 Tryz.ntmps90 (congrArg Array.toList Tryz.results90) (by simp) ?_
   repeat (first | (((with_reducible refine Qa fun K E hK hE => ?_)); simp -implicitDefEqProofs only [Qe, Qf, OpW, aop, undef, AS.ev, Qv, ↓reduceIte, aBin, b1, b2, seval]) | (with_reducible (first | refine Qd fun K hK => ?_ | refine Qi ?_ | refine Qj ?_ | refine Qq ?_ | refine Qs ?_)) | ((with_reducible refine hK _ ?_); clear hK) | (refine Qg rfl ?_; simp only [↓reduceIte, QpQ]))
   simp only [QD, Ql, Qr, upd, ↓reduceIte, QpS, QpW]; first | refine Qc (htake _ _) (.keep (.v _)) ⟨by rw [Xg, if_neg h1, if_pos h2], rfl⟩ | refine Qc List.take_length (.keep (.v _)) ⟨by rw [Xg, if_neg h1, if_pos h2], rfl⟩
  ·have b2 : (k == 0) = false := by simpa using h2
   by_cases h3 : k = 2
   ·have b3 : (k == 2) = true := by simpa using h3
    refine Qh Tryz.func90 rfl Tryz.call90 Tryz.ntmps90 (congrArg Array.toList Tryz.results90) (by simp) ?_
    repeat (first | (((with_reducible refine Qa fun K E hK hE => ?_)); simp -implicitDefEqProofs only [Qe, Qf, OpW, aop, undef, AS.ev, Qv, ↓reduceIte, aBin, b1, b2, b3, seval]) | (with_reducible (first | refine Qd fun K hK => ?_ | refine Qi ?_ | refine Qj ?_ | refine Qq ?_ | refine Qs ?_)) | ((with_reducible refine hK _ ?_); clear hK) | (refine Qg rfl ?_; simp only [↓reduceIte, QpQ]))
    simp only [QD, Ql, Qr, upd, ↓reduceIte, QpS, QpW]; first | refine Qc (htake _ _) (.keep (.v _)) ⟨by rw [Xg, if_neg h1, if_neg h2, if_pos h3], rfl⟩ | refine Qc List.take_length (.keep (.v _)) ⟨by rw [Xg, if_neg h1, if_neg h2, if_pos h3], rfl⟩
   ·have b3 : (k == 2) = false := by simpa using h3
    refine Qh Tryz.func90 rfl Tryz.call90 Tryz.ntmps90 (congrArg Array.toList Tryz.results90) (by simp) ?_
    repeat (first | (((with_reducible refine Qa fun K E hK hE => ?_)); simp -implicitDefEqProofs only [Qe, Qf, OpW, aop, undef, AS.ev, Qv, ↓reduceIte, aBin, b1, b2, b3, seval]) | (with_reducible (first | refine Qd fun K hK => ?_ | refine Qi ?_ | refine Qj ?_ | refine Qn ?_ | refine Qb ?_ | refine Qo ?_)) | ((with_reducible refine hK _ ?_); clear hK) | (refine Qg rfl ?_; simp only [↓reduceIte, QpQ]))
    simp only [QD, Ql, Qr, upd, ↓reduceIte, QpS, QpW]; first | refine Qc (htake _ _) (.keep (.v _)) ⟨by rw [Xg, if_neg h1, if_neg h2, if_neg h3], rfl⟩ | refine Qc List.take_length (.keep (.v _)) ⟨by rw [Xg, if_neg h1, if_neg h2, if_neg h3], rfl⟩
theorem Qel (t : T) : Pure Tryz.prog 95 [t.av] (.i (Xg t.kind)) := by
 intro h
 by_cases h1 : t.kind = 1
 ·have b1 : (t.kind == 1) = true := by simpa using h1
  refine Qh Tryz.func95 rfl Tryz.call95 Tryz.ntmps95 (congrArg Array.toList Tryz.results95) (by simp) ?_
  repeat (first | (((with_reducible refine Qa fun K E hK hE => ?_)); simp -implicitDefEqProofs only [Qe, Qf, OpW, aop, undef, AS.ev, Qv, AV.QoY, ↓reduceIte, Qm, QA, QB, aBin, ti3, QX, b1, seval]) | (with_reducible (first | refine Qd fun K hK => ?_ | refine Qi ?_ | refine Qj ?_ | refine Qq ?_ | refine Qs ?_)) | ((with_reducible refine hK _ ?_); clear hK) | (refine Qg rfl ?_; simp only [↓reduceIte]))
  simp only [QD, Ql, Qr, upd, ↓reduceIte, QpS, QpW]; first | refine Qc (htake _ _) (.keep (.v _)) ⟨by rw [Xg, if_pos h1], rfl⟩ | refine Qc List.take_length (.keep (.v _)) ⟨by rw [Xg, if_pos h1], rfl⟩
 ·have b1 : (t.kind == 1) = false := by simpa using h1
  by_cases h2 : t.kind = 0
  ·have b2 : (t.kind == 0) = true := by simpa using h2
   refine Qh Tryz.func95 rfl Tryz.call95 Tryz.ntmps95 (congrArg Array.toList Tryz.results95) (by simp) ?_
   repeat (first | (((with_reducible refine Qa fun K E hK hE => ?_)); simp -implicitDefEqProofs only [Qe, Qf, OpW, aop, undef, AS.ev, Qv, AV.QoY, ↓reduceIte, Qm, QA, QB, aBin, ti3, QX, b1, b2, seval]) | (with_reducible (first | refine Qd fun K hK => ?_ | refine Qi ?_ | refine Qj ?_ | refine Qq ?_ | refine Qs ?_)) | ((with_reducible refine hK _ ?_); clear hK) | (refine Qg rfl ?_; simp only [↓reduceIte, QpQ]))
   simp only [QD, Ql, Qr, upd, ↓reduceIte, QpS, QpW]; first | refine Qc (htake _ _) (.keep (.v _)) ⟨by rw [Xg, if_neg h1, if_pos h2], rfl⟩ | refine Qc List.take_length (.keep (.v _)) ⟨by rw [Xg, if_neg h1, if_pos h2], rfl⟩
  ·have b2 : (t.kind == 0) = false := by simpa using h2
   by_cases h3 : t.kind = 2
   ·have b3 : (t.kind == 2) = true := by simpa using h3
    refine Qh Tryz.func95 rfl Tryz.call95 Tryz.ntmps95 (congrArg Array.toList Tryz.results95) (by simp) ?_
    repeat (first | (((with_reducible refine Qa fun K E hK hE => ?_)); simp -implicitDefEqProofs only [Qe, Qf, OpW, aop, undef, AS.ev, Qv, AV.QoY, ↓reduceIte, Qm, QA, QB, aBin, ti3, QX, b1, b2, b3, seval]) | (with_reducible (first | refine Qd fun K hK => ?_ | refine Qi ?_ | refine Qj ?_ | refine Qq ?_ | refine Qs ?_)) | ((with_reducible refine hK _ ?_); clear hK) | (refine Qg rfl ?_; simp only [↓reduceIte, QpQ]))
    simp only [QD, Ql, Qr, upd, ↓reduceIte, QpS, QpW]; first | refine Qc (htake _ _) (.keep (.v _)) ⟨by rw [Xg, if_neg h1, if_neg h2, if_pos h3], rfl⟩ | refine Qc List.take_length (.keep (.v _)) ⟨by rw [Xg, if_neg h1, if_neg h2, if_pos h3], rfl⟩
   ·have b3 : (t.kind == 2) = false := by simpa using h3
    refine Qh Tryz.func95 rfl Tryz.call95 Tryz.ntmps95 (congrArg Array.toList Tryz.results95) (by simp) ?_
    repeat (first | (((with_reducible refine Qa fun K E hK hE => ?_)); simp -implicitDefEqProofs only [Qe, Qf, OpW, aop, undef, AS.ev, Qv, AV.QoY, ↓reduceIte, Qm, QA, QB, aBin, ti3, QX, b1, b2, b3, seval]) | (with_reducible (first | refine Qd fun K hK => ?_ | refine Qi ?_ | refine Qj ?_ | refine Qn ?_ | refine Qb ?_ | refine Qo ?_)) | ((with_reducible refine hK _ ?_); clear hK) | (refine Qg rfl ?_; simp only [↓reduceIte, QpQ]))
    simp only [QD, Ql, Qr, upd, ↓reduceIte, QpS, QpW]; first | refine Qc (htake _ _) (.keep (.v _)) ⟨by rw [Xg, if_neg h1, if_neg h2, if_neg h3], rfl⟩ | refine Qc List.take_length (.keep (.v _)) ⟨by rw [Xg, if_neg h1, if_neg h2, if_neg h3], rfl⟩
mutual
def T.nds : T → Nat
 | .mk _ _ _ l => 1 + ndsL l
def ndsL : List T → Nat
 | [] => 0
 | t :: l => t.nds + ndsL l
end
theorem T.Qo1 (t : T) : t.nds = 1 + ndsL t.args := by cases t; simp only [T.nds, T.args]
theorem XM : ∀ {l : List T} {k : Nat} (h : k < l.length), (l[k]).nds ≤ ndsL l
 | t :: l, 0, _ => by simp only [List.getElem_cons_zero, ndsL]; omega
 | t :: l, k + 1, h => by
  have := XM (l := l) (k := k) (by simpa using h)
  simp only [List.getElem_cons_succ, ndsL]; omega
def orL : List Int → Int
 | [] => 0
 | a :: l => if (a != 0) = true then a else orL l
theorem Qmu {l : List Int} {k : Nat} (h : k < l.length) : orL (l.drop k) = if (l[k] != 0) = true then l[k] else orL (l.drop (k + 1)) := by
 rw [List.drop_eq_getElem_cons h]; rfl
def or3 (a b c : Int) : Int := orL [a, b, c]
mutual
def cmpT : T → T → Int
 | .mk k i n l, .mk k' i' n' l' =>
  if (cmpI (Xg k) (Xg k') != 0) = true then cmpI (Xg k) (Xg k')
  else if Xg k = 0 ∨ Xg k = 1 then cmpI i i'
  else if Xg k = 2 then
   if (cmpI l.length l'.length != 0) = true then cmpI l.length l'.length
   else if (cmpS n n' != 0) = true then cmpS n n'
   else cmpL l l'
  else or3 (cmpI k k') (cmpI i i') (cmpS n n')
def cmpL : List T → List T → Int
 | a :: l, b :: m => if (cmpT a b != 0) = true then cmpT a b else cmpL l m
 | [], [] => 0
 | [], _ :: _ => -1
 | _ :: _, [] => 1
end
theorem Qj1 (a b : T) : cmpT a b =
  if (cmpI (Xg a.kind) (Xg b.kind) != 0) = true then cmpI (Xg a.kind) (Xg b.kind)
  else if Xg a.kind = 0 ∨ Xg a.kind = 1 then cmpI a.int b.int
  else if Xg a.kind = 2 then
   if (cmpI a.args.length b.args.length != 0) = true then cmpI a.args.length b.args.length
   else if (cmpS a.name b.name != 0) = true then cmpS a.name b.name
   else cmpL a.args b.args
  else or3 (cmpI a.kind b.kind) (cmpI a.int b.int) (cmpS a.name b.name) := by
 cases a; cases b; simp only [cmpT, T.kind, T.int, T.name, T.args]; rfl
theorem QbD {l m : List T} {k : Nat} (h1 : k < l.length) (h2 : k < m.length) : cmpL (l.drop k) (m.drop k) = if (cmpT l[k] m[k] != 0) = true then cmpT l[k] m[k] else cmpL (l.drop (k + 1)) (m.drop (k + 1)) := by
 rw [List.drop_eq_getElem_cons h1, List.drop_eq_getElem_cons h2]; simp only [cmpL]
theorem QiG (l : List Int) (hl : l.length ≤ 1000000) : Pure Tryz.prog 93 [.sl 1 (ints l) none] (.i (orL l)) := by
 intro h
 refine Qh Tryz.func93 rfl Tryz.call93 Tryz.ntmps93 (congrArg Array.toList Tryz.results93) (by simp) ?_
 repeat (first | (((with_reducible refine Qa fun K E hK hE => ?_)); simp -implicitDefEqProofs only [Qe, Qf, OpW, aop, undef, AS.ev, Qv, ↓reduceIte, aLen, goInt, un49, seval]) | (with_reducible (first | refine Qd fun K hK => ?_ | refine Qi ?_)) | ((with_reducible refine hK _ ?_); clear hK))
 obtain ⟨I, hI⟩ : ∃ I : Nat → AS → Prop, I = fun m' s => ∃ (k : Nat) (L : AH), m' = l.length - k ∧ k ≤ l.length ∧ s.tm 3 = .i 0 ∧ s.tm 6 = .sl 1 (ints l) none ∧ s.tm 7 = .i l.length ∧ s.tm 8 = .i k ∧ s.h = h ++ L ∧ orL l = orL (l.drop k) := ⟨_, rfl⟩; refine QI I ?_ (m := l.length) ?_
 ·intro m' s hs; rw [hI] at hs; obtain ⟨tm, hp⟩ := s; dsimp only at hs; obtain ⟨k, L, rfl, hk, h3, h6, h7, h8, rfl, hor⟩ := hs
  by_cases hlt : k < l.length
  ·have hd := Qmu hlt
   cases ha : (l[k] != 0) with
   | true =>
    repeat (first | (((with_reducible refine Qa fun K E hK hE => ?_)); simp -implicitDefEqProofs only [Qe, Qf, OpW, aop, AS.ev, ↓reduceIte, QA, QB, Qt, aBin, ti3, ei49, hlt, h3, h6, h7, h8, ha, XK hlt, seval]) | (with_reducible (first | refine Qd fun K hK => ?_ | refine Qi ?_ | refine Qj ?_ | refine Qn ?_ | refine Qb ?_ | refine Qq ?_ | refine Qs ?_)) | ((with_reducible refine hK _ ?_); clear hK) | (refine Qg rfl ?_; simp only [↓reduceIte]))
    simp only [QD, Ql, Qr, upd, ↓reduceIte, QpS, QpW]; first | refine Qc (htake _ _) (.keep (.v _)) ⟨by rw [hor, hd, if_pos ha], rfl⟩ | refine Qc List.take_length (.keep (.v _)) ⟨by rw [hor, hd, if_pos ha], rfl⟩
   | false =>
    repeat (first | ((first | (with_reducible (first | refine Qa fun K E hK hE => ?_ | refine Qk fun K E hK hE => ?_))); simp -implicitDefEqProofs only [Qe, Qf, OpW, aop, AS.ev, ↓reduceIte, QA, QB, Qt, aBin, ti3, ei49, hlt, h3, h6, h7, h8, ha, XK hlt, seval]) | (with_reducible (first | refine Qd fun K hK => ?_ | refine Qi ?_ | refine Qn ?_ | refine Qb ?_ | refine Qo ?_)) | ((with_reducible refine hK _ ?_); clear hK) | (refine Qg rfl ?_; simp only [↓reduceIte, QpQ]))
    refine QV.mk (m' := l.length - (k + 1)) (by omega) ?_
    rw [hI]
    refine ⟨k + 1, L, rfl, hlt, h3, h6, h7, ?_, rfl, ?_⟩
    ·simp only [upd, ↓reduceIte]
     rw [QP (by omega)]
    ·rw [hor, hd, ha]; rfl
  ·have hkl : k = l.length := by omega
   repeat (first | (((with_reducible refine Qa fun K E hK hE => ?_)); simp -implicitDefEqProofs only [Qe, Qf, OpW, aop, AS.ev, ↓reduceIte, aBin, hlt, h3, h7, h8, seval]) | (with_reducible (first | refine Qd fun K hK => ?_ | refine Qj ?_ | refine QC ?_ | refine Qb ?_ | refine Qw ?_ | refine Qy ?_)) | ((with_reducible refine hK _ ?_); clear hK) | (clear hK; (with_reducible refine hK _ ?_); clear hK) | (refine Qg rfl ?_; simp only [↓reduceIte, QpQ]))
   simp only [QD, Ql, Qr, upd, ↓reduceIte, QpS, QpW]; first | refine Qc (htake _ _) (.keep (.v _)) ⟨by rw [hor, hkl, List.drop_length]; rfl, rfl⟩ | refine Qc List.take_length (.keep (.v _)) ⟨by rw [hor, hkl, List.drop_length]; rfl, rfl⟩
 ·rw [hI]
  exact ⟨0, [], by omega, Nat.zero_le _, rfl, rfl, by simp only [upd, ↓reduceIte, Nat.reduceEqDiff], rfl, by simp only [Qqf], rfl⟩
theorem Qnp (a b c : Int) : Pure Tryz.prog 93 [.sl 1 [.i a, .i b, .i c] none] (.i (or3 a b c)) := QiG [a, b, c] (by simp)
theorem QgK (n : Nat) (ih : ∀ a b : T, a.nds ≤ n → Pure Tryz.prog 50 [a.av, b.av] (.i (cmpT a b))) (l m : List T) (hn : ndsL l ≤ n) (hlm : l.length = m.length) (hl : l.length ≤ 9000000000000000000) :
  Pure Tryz.prog 92 [.sl 4 (avs l) none, .sl 4 (avs m) none] (.i (cmpL l m)) := by
 intro h
 refine Qh Tryz.func92 rfl Tryz.call92 Tryz.ntmps92 (congrArg Array.toList Tryz.results92) (by simp) ?_
 repeat (first | (((with_reducible refine Qa fun K E hK hE => ?_)); simp -implicitDefEqProofs only [Qe, Qf, OpW, aop, undef, AS.ev, Qv, ↓reduceIte, aLen, goInt, un29, seval]) | (with_reducible (first | refine Qd fun K hK => ?_ | refine Qi ?_)) | ((with_reducible refine hK _ ?_); clear hK))
 obtain ⟨I, hI⟩ : ∃ I : Nat → AS → Prop, I = fun m' s => ∃ (k : Nat) (L : AH), m' = l.length - k ∧ k ≤ l.length ∧ s.tm 0 = .sl 4 (avs l) none ∧ s.tm 1 = .sl 4 (avs m) none ∧ s.tm 8 = .i l.length ∧ s.tm 9 = .i k ∧ s.h = h ++ L ∧ cmpL l m = cmpL (l.drop k) (m.drop k) := ⟨_, rfl⟩; refine QI I ?_ (m := l.length) ?_
 ·intro m' s hs; rw [hI] at hs; obtain ⟨tm, hp⟩ := s; dsimp only at hs; obtain ⟨k, L, rfl, hk, h0, h1, h8, h9, rfl, hor⟩ := hs
  by_cases hlt : k < l.length
  ·have hlt2 : k < m.length := by omega
   have hd := QbD hlt hlt2
   have hc := ih l[k] m[k] (Nat.le_trans (XM hlt) hn)
   cases ha : (cmpT l[k] m[k] != 0) with
   | true =>
    repeat (first | ((first | (with_reducible (first | refine Qa fun K E hK hE => ?_ | refine Qz hc ?_)) | (refine Qu (id := 4) [(0, 0), (1, 0), (2, 0), (3, 0), (4, 0), (5, 0), (6, 0), (7, 0), (8, 1), (9, 0)] mixed (by kernel_rfl) fun K hK => ?_)); simp -implicitDefEqProofs only [Qe, Qf, OpW, aop, AS.ev, ↓reduceIte, QA, QB, Qt, aBin, ei29, ti41, hlt, hlt2, h0, h1, h8, h9, ha, Q3 hlt, Q3 hlt2, seval]) | (with_reducible (first | refine Qd fun K hK => ?_ | refine Qi ?_ | refine Qj ?_ | refine Qn ?_ | refine Qb ?_ | refine Qq ?_ | refine Qs ?_)) | ((with_reducible refine hK _ ?_); clear hK) | (refine Qg rfl ?_; simp only [↓reduceIte]))
    simp only [QD, Ql, Qr, upd, ↓reduceIte, QpS, QpW]; first | refine Qc (htake _ _) (.keep (.v _)) ⟨by rw [hor, hd, if_pos ha], rfl⟩ | refine Qc List.take_length (.keep (.v _)) ⟨by rw [hor, hd, if_pos ha], rfl⟩
   | false =>
    repeat (first | ((first | (with_reducible (first | refine Qa fun K E hK hE => ?_ | refine Qk fun K E hK hE => ?_ | refine Qz hc ?_)) | (refine Qu (id := 4) [(0, 0), (1, 0), (2, 0), (3, 0), (4, 0), (5, 0), (6, 0), (7, 0), (8, 1), (9, 0)] mixed (by kernel_rfl) fun K hK => ?_)); simp -implicitDefEqProofs only [Qe, Qf, OpW, aop, AS.ev, ↓reduceIte, QA, QB, Qt, aBin, ei29, ti41, hlt, hlt2, h0, h1, h8, h9, ha, Q3 hlt, Q3 hlt2, seval]) | (with_reducible (first | refine Qd fun K hK => ?_ | refine Qi ?_ | refine Qn ?_ | refine Qb ?_ | refine Qo ?_)) | ((with_reducible refine hK _ ?_); clear hK) | (refine Qg rfl ?_; simp only [↓reduceIte, QpQ]))
    refine QV.mk (m' := l.length - (k + 1)) (by omega) ?_
    rw [hI]
    refine ⟨k + 1, L, rfl, hlt, h0, h1, h8, ?_, rfl, ?_⟩
    ·simp only [upd, ↓reduceIte]
     rw [QP (by omega)]
    ·rw [hor, hd, ha]; rfl
  ·have hkl : k = l.length := by omega
   repeat (first | (((with_reducible refine Qa fun K E hK hE => ?_)); simp -implicitDefEqProofs only [Qe, Qf, OpW, aop, AS.ev, Nat.reduceLT, aBin, hlt, h8, h9]) | (with_reducible (first | refine Qd fun K hK => ?_ | refine Qj ?_ | refine QC ?_ | refine Qb ?_ | refine Qw ?_ | refine Qy ?_)) | ((with_reducible refine hK _ ?_); clear hK) | (clear hK; (with_reducible refine hK _ ?_); clear hK) | (refine Qg rfl ?_; simp only [↓reduceIte, QpQ]))
   simp only [QD, Ql, Qr, upd, ↓reduceIte, QpS, QpW]; first | refine Qc (htake _ _) (.keep (.v _)) ⟨by rw [hor, hkl, List.drop_length, hlm, List.drop_length]; rfl, rfl⟩ | refine Qc List.take_length (.keep (.v _)) ⟨by rw [hor, hkl, List.drop_length, hlm, List.drop_length]; rfl, rfl⟩
 ·rw [hI]
  exact ⟨0, [], by omega, Nat.zero_le _, rfl, rfl, by simp only [upd, ↓reduceIte, Nat.reduceEqDiff], rfl, by simp only [Qqf], rfl⟩
theorem QW : ∀ l : List T, l.length ≤ ndsL l
 | [] => Nat.le_refl _
 | t :: l => by
  have := QW l
  have := T.Qo1 t
  simp only [QpZ, ndsL]; omega
theorem ZW : ∀ (n : Nat), n ≤ 1000000 → ∀ a b : T, a.nds ≤ n → Pure Tryz.prog 50 [a.av, b.av] (.i (cmpT a b))
 | 0, _, a, b, hn => by have := T.Qo1 a; omega
 | n + 1, hn1, a, b, hn => by
  intro h
  have e := Qj1 a b
  have r1 := Qhc a.kind
  have r2 := Qhc b.kind
  have c1 := compareInt (Xg a.kind) (Xg b.kind)
  cases h1 : (cmpI (Xg a.kind) (Xg b.kind) != 0) with
  | true =>
   rw [if_pos h1] at e
   refine Qh Tryz.func50 rfl Tryz.call50 Tryz.ntmps50 (congrArg Array.toList Tryz.results50) (by simp) ?_
   repeat (first | ((first | (with_reducible (first | refine Qa fun K E hK hE => ?_ | refine Qz r1 ?_ | refine Qz r2 ?_ | refine Qz c1 ?_)) | (refine Qu (id := 1) [(0, 0), (1, 0), (2, 1), (3, 0), (4, 0), (5, 1), (6, 1), (7, 0)] mixed (by kernel_rfl) fun K hK => ?_)); simp -implicitDefEqProofs only [Qe, Qf, OpW, aop, undef, AS.ev, Qv, AV.QoY, ↓reduceIte, Qm, QA, QB, aBin, ti3, QX, h1, seval]) | (with_reducible (first | refine Qd fun K hK => ?_ | refine Qj ?_ | refine Qq ?_)) | ((with_reducible refine hK _ ?_); clear hK) | (refine Qg rfl ?_; simp only [↓reduceIte]))
   simp only [QD, Ql, Qr, upd, ↓reduceIte, QpS, QpW]; first | refine Qc (htake _ _) (.keep (.v _)) ⟨by rw [e], rfl⟩ | refine Qc List.take_length (.keep (.v _)) ⟨by rw [e], rfl⟩
  | false =>
   rw [if_neg (by rw [h1]; simp)] at e
   have c2 := compareInt a.int b.int
   by_cases k0 : Xg a.kind = 0
   ·rw [if_pos (.inl k0)] at e
    have b0 : (Xg a.kind == 0) = true := by simpa using k0
    refine Qh Tryz.func50 rfl Tryz.call50 Tryz.ntmps50 (congrArg Array.toList Tryz.results50) (by simp) ?_
    repeat (first | ((first | (with_reducible (first | refine Qa fun K E hK hE => ?_ | refine Qp r1 ?_ | refine Qz r1 ?_ | refine Qz r2 ?_ | refine Qz c1 ?_ | refine Qp c2 ?_)) | (refine Qu (id := 1) [(0, 0), (1, 0), (2, 1), (3, 0), (4, 0), (5, 1), (6, 1), (7, 0)] mixed (by kernel_rfl) fun K hK => ?_)); simp -implicitDefEqProofs only [Qe, Qf, OpW, QK, aop, undef, AS.ev, Qv, AV.QoY, ↓reduceIte, Qm, QA, QB, aBin, ti3, QX, Q9, h1, b0, seval]) | (with_reducible (first | refine Qd fun K hK => ?_ | refine Qi ?_ | refine Qj ?_ | refine Qn ?_ | refine Qb ?_ | refine Qq ?_ | refine Qs ?_)) | ((with_reducible refine hK _ ?_); clear hK) | (refine Qg rfl ?_; simp only [↓reduceIte, QpQ]))
    simp only [QD, Ql, Qr, upd, ↓reduceIte, QpS, QpW]; first | refine Qc (htake _ _) (.keep (.v _)) ⟨by rw [e], rfl⟩ | refine Qc List.take_length (.keep (.v _)) ⟨by rw [e], rfl⟩
   ·have b0 : (Xg a.kind == 0) = false := by simpa using k0
    by_cases k1 : Xg a.kind = 1
    ·rw [if_pos (.inr k1)] at e
     have b1 : (Xg a.kind == 1) = true := by simpa using k1
     refine Qh Tryz.func50 rfl Tryz.call50 Tryz.ntmps50 (congrArg Array.toList Tryz.results50) (by simp) ?_
     repeat (first | ((first | (with_reducible (first | refine Qa fun K E hK hE => ?_ | refine Qk fun K E hK hE => ?_ | refine Qp r1 ?_ | refine Qz r1 ?_ | refine Qz r2 ?_ | refine Qz c1 ?_ | refine Qp c2 ?_)) | (refine Qu (id := 1) [(0, 0), (1, 0), (2, 1), (3, 0), (4, 0), (5, 1), (6, 1), (7, 0)] mixed (by kernel_rfl) fun K hK => ?_)); simp -implicitDefEqProofs only [Qe, Qf, OpW, QK, aop, undef, AS.ev, Qv, AV.QoY, ↓reduceIte, Qm, QA, QB, aBin, ti3, QX, Q9, h1, b0, b1, seval]) | (with_reducible (first | refine Qd fun K hK => ?_ | refine Qi ?_ | refine Qj ?_ | refine Qn ?_ | refine Qb ?_ | refine Qq ?_ | refine Qs ?_)) | ((with_reducible refine hK _ ?_); clear hK) | (refine Qg rfl ?_; simp only [↓reduceIte, QpQ]))
     simp only [QD, Ql, Qr, upd, ↓reduceIte, QpS, QpW]; first | refine Qc (htake _ _) (.keep (.v _)) ⟨by rw [e], rfl⟩ | refine Qc List.take_length (.keep (.v _)) ⟨by rw [e], rfl⟩
    ·rw [if_neg (by simp only [k0, k1, or_self, not_false_eq_true])] at e
     have b1 : (Xg a.kind == 1) = false := by simpa using k1
     have c3 := Qbu a.name b.name
     by_cases k2 : Xg a.kind = 2
     ·rw [if_pos k2] at e
      have b2 : (Xg a.kind == 2) = true := by simpa using k2
      have c4 := compareInt a.args.length b.args.length
      cases h2 : (cmpI a.args.length b.args.length != 0) with
      | true =>
       rw [if_pos h2] at e
       refine Qh Tryz.func50 rfl Tryz.call50 Tryz.ntmps50 (congrArg Array.toList Tryz.results50) (by simp) ?_
       repeat (first | ((first | (with_reducible (first | refine Qa fun K E hK hE => ?_ | refine Qk fun K E hK hE => ?_ | refine Qp r1 ?_ | refine Qz r1 ?_ | refine Qz r2 ?_ | refine Qz c1 ?_ | refine Qp c4 ?_)) | (refine Qu (id := 1) [(0, 0), (1, 0), (2, 1), (3, 0), (4, 0), (5, 1), (6, 1), (7, 0)] mixed (by kernel_rfl) fun K hK => ?_)); simp -implicitDefEqProofs only [Qe, Qf, OpW, QK, aop, undef, AS.ev, Qv, AV.QoY, ↓reduceIte, Qm, QA, QB, aBin, aLen, goInt, ti3, ti29, un29, QX, Xc, h1, h2, b0, b1, b2, seval]) | (with_reducible (first | refine Qd fun K hK => ?_ | refine Qi ?_ | refine Qj ?_ | refine Qn ?_ | refine Qb ?_ | refine Qq ?_ | refine Qs ?_)) | ((with_reducible refine hK _ ?_); clear hK) | (refine Qg rfl ?_; simp only [↓reduceIte, QpQ]))
       simp only [QD, Ql, Qr, upd, ↓reduceIte, QpS, QpW]; first | refine Qc (htake _ _) (.keep (.v _)) ⟨by rw [e], rfl⟩ | refine Qc List.take_length (.keep (.v _)) ⟨by rw [e], rfl⟩
      | false =>
       rw [if_neg (by rw [h2]; simp)] at e
       cases h3 : (cmpS a.name b.name != 0) with
       | true =>
        rw [if_pos h3] at e
        refine Qh Tryz.func50 rfl Tryz.call50 Tryz.ntmps50 (congrArg Array.toList Tryz.results50) (by simp) ?_
        repeat (first | ((first | (with_reducible (first | refine Qa fun K E hK hE => ?_ | refine Qk fun K E hK hE => ?_ | refine Qp r1 ?_ | refine Qz r1 ?_ | refine Qz r2 ?_ | refine Qz c1 ?_ | refine Qp c3 ?_ | refine Qp c4 ?_)) | (refine Qu (id := 1) [(0, 0), (1, 0), (2, 1), (3, 0), (4, 0), (5, 1), (6, 1), (7, 0)] mixed (by kernel_rfl) fun K hK => ?_)); simp -implicitDefEqProofs only [Qe, Qf, OpW, QK, aop, undef, AS.ev, Qv, AV.QoY, ↓reduceIte, Qm, QA, QB, aBin, aLen, goInt, ti3, ti9, ti29, un29, QX, Xl, Xc, h1, h2, h3, b0, b1, b2, seval]) | (with_reducible (first | refine Qd fun K hK => ?_ | refine Qi ?_ | refine Qj ?_ | refine Qn ?_ | refine Qb ?_ | refine Qq ?_ | refine Qs ?_)) | ((with_reducible refine hK _ ?_); clear hK) | (refine Qg rfl ?_; simp only [↓reduceIte, QpQ]))
        simp only [QD, Ql, Qr, upd, ↓reduceIte, QpS, QpW]; first | refine Qc (htake _ _) (.keep (.v _)) ⟨by rw [e], rfl⟩ | refine Qc List.take_length (.keep (.v _)) ⟨by rw [e], rfl⟩
       | false =>
        rw [if_neg (by rw [h3]; simp)] at e
        have hll : a.args.length = b.args.length := by
         unfold cmpI at h2
         split at h2
         ·simp at h2
         ·split at h2
          ·simp at h2
          ·omega
        have hnd := T.Qo1 a
        have c5 := QgK n (ZW n (by omega)) a.args b.args (by omega) hll (by have := QW a.args; omega)
        refine Qh Tryz.func50 rfl Tryz.call50 Tryz.ntmps50 (congrArg Array.toList Tryz.results50) (by simp) ?_
        repeat (first | ((first | (with_reducible (first | refine Qa fun K E hK hE => ?_ | refine Qk fun K E hK hE => ?_ | refine Qp r1 ?_ | refine Qz r1 ?_ | refine Qz r2 ?_ | refine Qz c1 ?_ | refine Qp c3 ?_ | refine Qp c4 ?_ | refine Qp c5 ?_)) | (refine Qu (id := 1) [(0, 0), (1, 0), (2, 1), (3, 0), (4, 0), (5, 1), (6, 1), (7, 0)] mixed (by kernel_rfl) fun K hK => ?_)); simp -implicitDefEqProofs only [Qe, Qf, OpW, QK, aop, undef, AS.ev, Qv, AV.QoY, ↓reduceIte, Qm, QA, QB, aBin, aLen, goInt, ti3, ti9, ti29, un29, QX, Xl, Xc, h1, h2, h3, b0, b1, b2, seval]) | (with_reducible (first | refine Qd fun K hK => ?_ | refine Qi ?_ | refine Qj ?_ | refine Qn ?_ | refine Qb ?_ | refine Qq ?_ | refine Qs ?_)) | ((with_reducible refine hK _ ?_); clear hK) | (refine Qg rfl ?_; simp only [↓reduceIte, QpQ]))
        simp only [QD, Ql, Qr, upd, ↓reduceIte, QpS, QpW]; first | refine Qc (htake _ _) (.keep (.v _)) ⟨by rw [e], rfl⟩ | refine Qc List.take_length (.keep (.v _)) ⟨by rw [e], rfl⟩
     ·rw [if_neg k2] at e
      have b2 : (Xg a.kind == 2) = false := by simpa using k2
      have c4 := compareInt a.kind b.kind
      have c5 := Qnp (cmpI a.kind b.kind) (cmpI a.int b.int) (cmpS a.name b.name)
      refine Qh Tryz.func50 rfl Tryz.call50 Tryz.ntmps50 (congrArg Array.toList Tryz.results50) (by simp) ?_
      repeat (first | ((first | (with_reducible (first | refine Qa fun K E hK hE => ?_ | refine Qk fun K E hK hE => ?_ | refine Qp r1 ?_ | refine Qz r1 ?_ | refine Qz r2 ?_ | refine Qz c1 ?_ | refine Qz c2 ?_ | refine Qz c3 ?_ | refine Qz c4 ?_ | refine Qz c5 ?_)) | (refine Qu (id := 1) [(0, 0), (1, 0), (2, 1), (3, 0), (4, 0), (5, 1), (6, 1), (7, 0)] mixed (by kernel_rfl) fun K hK => ?_) | (refine Qu (id := 16) [(0, 0), (1, 0), (2, 0), (3, 0), (4, 1), (5, 0), (6, 0), (7, 0), (8, 0), (9, 1), (10, 0), (11, 0), (12, 0), (13, 0), (14, 1), (15, 0), (16, 1), (17, 0)] mixed (by kernel_rfl) fun K hK => ?_)); simp -implicitDefEqProofs only [Qe, Qf, OpW, QK, aop, undef, AS.ev, Qv, AV.QoY, ↓reduceIte, Qm, QA, QB, aBin, QM, ti3, zi3, ti9, QX, Q9, Xl, ei49, h1, b0, b1, b2, seval]) | (with_reducible (first | refine Qd fun K hK => ?_ | refine Qi ?_ | refine Qj ?_ | refine Qn ?_ | refine Qb ?_ | refine Qo ?_)) | ((with_reducible refine hK _ ?_); clear hK) | (refine Qg rfl ?_; simp only [↓reduceIte, QpQ]))
      simp only [QD, Ql, Qr, upd, ↓reduceIte, QpS, QpW]; first | refine Qc (htake _ _) (.keep (.v _)) ⟨by rw [e], rfl⟩ | refine Qc List.take_length (.keep (.v _)) ⟨by rw [e], rfl⟩
theorem QeG (n : Nat) (ih : ∀ a b : T, a.nds ≤ n → Pure Tryz.prog 53 [a.av, b.av] (.i (cmpT a b))) (l m : List T) (hn : ndsL l ≤ n) (hl : l.length ≤ 9000000000000000000) :
  Pure Tryz.prog 97 [.sl 4 (avs l) none, .sl 4 (avs m) none] (.i (cmpL l m)) := by
 intro h
 have ci := QbJ l.length m.length
 refine Qh Tryz.func97 rfl Tryz.call97 Tryz.ntmps97 (congrArg Array.toList Tryz.results97) (by simp) ?_
 repeat (first | (((with_reducible refine Qa fun K E hK hE => ?_)); simp -implicitDefEqProofs only [Q4, Q2, Qf, OpW, aop, AS.ev, Q6, QeV, Nat.reduceLT]) | (with_reducible (first | refine Qd fun K hK => ?_ | refine Qi ?_)) | ((with_reducible refine hK _ ?_); clear hK))
 obtain ⟨I, hI⟩ : ∃ I : Nat → AS → Prop, I = fun m' s => ∃ (k : Nat) (L : AH), m' = l.length - k ∧ k ≤ l.length ∧ k ≤ m.length ∧ s.tm 0 = .sl 4 (avs l) none ∧ s.tm 1 = .sl 4 (avs m) none ∧ s.tm 5 = .i k ∧ s.h = h ++ L ∧ cmpL l m = cmpL (l.drop k) (m.drop k) := ⟨_, rfl⟩; refine QI I ?_ (m := l.length) ?_
 ·intro m' s hs; rw [hI] at hs; obtain ⟨tm, hp⟩ := s; dsimp only at hs; obtain ⟨k, L, rfl, hk, hk2, h0, h1, h5, rfl, hor⟩ := hs
  by_cases hlt : k < l.length
  ·by_cases hlt2 : k < m.length
   ·have hd := QbD hlt hlt2
    have hc := ih l[k] m[k] (Nat.le_trans (XM hlt) hn)
    cases ha : (cmpT l[k] m[k] != 0) with
    | true =>
     repeat (first | ((first | (with_reducible (first | refine Qa fun K E hK hE => ?_ | refine Qz hc ?_)) | (refine Qu (id := 4) [(0, 0), (1, 0), (2, 0), (3, 0), (4, 0), (5, 0), (6, 0), (7, 0), (8, 1), (9, 0)] mixed (by kernel_rfl) fun K hK => ?_)); simp -implicitDefEqProofs only [Qe, Qf, OpW, aop, AS.ev, ↓reduceIte, QA, QB, Qt, aBin, aLen, goInt, ei29, un29, ti41, hlt, hlt2, h0, h1, h5, ha, Q3 hlt, Q3 hlt2, seval]) | (with_reducible (first | refine Qd fun K hK => ?_ | refine Qi ?_ | refine Qj ?_ | refine Qn ?_ | refine Qb ?_ | refine Qq ?_ | refine Qs ?_)) | ((with_reducible refine hK _ ?_); clear hK) | (refine Qg rfl ?_; simp only [↓reduceIte]))
     simp only [QD, Ql, Qr, upd, ↓reduceIte, QpS, QpW]; first | refine Qc (htake _ _) (.keep (.v _)) ⟨by rw [hor, hd, if_pos ha], rfl⟩ | refine Qc List.take_length (.keep (.v _)) ⟨by rw [hor, hd, if_pos ha], rfl⟩
    | false =>
     repeat (first | ((first | (with_reducible (first | refine Qa fun K E hK hE => ?_ | refine Qk fun K E hK hE => ?_ | refine Qz hc ?_)) | (refine Qu (id := 4) [(0, 0), (1, 0), (2, 0), (3, 0), (4, 0), (5, 0), (6, 0), (7, 0), (8, 1), (9, 0)] mixed (by kernel_rfl) fun K hK => ?_)); simp -implicitDefEqProofs only [Qe, Qf, OpW, aop, AS.ev, ↓reduceIte, QA, QB, Qt, aBin, aLen, goInt, ei29, un29, ti41, hlt, hlt2, h0, h1, h5, ha, Q3 hlt, Q3 hlt2, seval]) | (with_reducible (first | refine Qd fun K hK => ?_ | refine Qi ?_ | refine Qn ?_ | refine Qb ?_ | refine Qo ?_)) | ((with_reducible refine hK _ ?_); clear hK) | (refine Qg rfl ?_; simp only [↓reduceIte, QpQ]))
     refine QV.mk (m' := l.length - (k + 1)) (by omega) ?_
     rw [hI]
     refine ⟨k + 1, L, rfl, hlt, hlt2, h0, h1, ?_, rfl, ?_⟩
     ·simp only [upd, ↓reduceIte]
      rw [QP (by omega)]
     ·rw [hor, hd, ha]; rfl
   ·have hkm : k = m.length := by omega
    repeat (first | ((first | (with_reducible (first | refine Qa fun K E hK hE => ?_ | refine Qp ci ?_))); simp -implicitDefEqProofs only [Qe, Qf, OpW, QK, aop, AS.ev, ↓reduceIte, aBin, aLen, goInt, un29, hlt, hlt2, h0, h1, h5, seval]) | (with_reducible (first | refine Qd fun K hK => ?_ | refine Qj ?_ | refine QC ?_ | refine Qb ?_ | refine Qw ?_ | refine Qy ?_)) | ((with_reducible refine hK _ ?_); clear hK) | (clear hK; (with_reducible refine hK _ ?_); clear hK) | (refine Qg rfl ?_; simp only [↓reduceIte, QpQ]))
    simp only [QD, Ql, Qr, upd, ↓reduceIte, QpS, QpW]; first | refine Qc (htake _ _) (.keep (.v _)) ⟨?_, rfl⟩ | refine Qc List.take_length (.keep (.v _)) ⟨?_, rfl⟩
    rw [hor, hkm, List.drop_length, List.drop_eq_getElem_cons (by omega), cmpL, cmpI, if_neg (by omega), if_pos (by omega)]
  ·have hkl : k = l.length := by omega
   repeat (first | ((first | (with_reducible (first | refine Qa fun K E hK hE => ?_ | refine Qp ci ?_))); simp -implicitDefEqProofs only [Qe, Qf, OpW, QK, aop, undef, AS.ev, ↓reduceIte, aBin, aLen, goInt, un29, hlt, h0, h1, h5, seval]) | (with_reducible (first | refine Qd fun K hK => ?_ | refine Qj ?_ | refine QC ?_ | refine Qb ?_ | refine Qw ?_ | refine Qy ?_)) | ((with_reducible refine hK _ ?_); clear hK) | (clear hK; (with_reducible refine hK _ ?_); clear hK) | (refine Qg rfl ?_; simp only [↓reduceIte, QpQ]))
   simp only [QD, Ql, Qr, upd, ↓reduceIte, QpS, QpW]; first | refine Qc (htake _ _) (.keep (.v _)) ⟨?_, rfl⟩ | refine Qc List.take_length (.keep (.v _)) ⟨?_, rfl⟩
   rw [hor, hkl, List.drop_length]
   by_cases hm : l.length < m.length
   ·rw [List.drop_eq_getElem_cons hm, cmpL, cmpI, if_pos (by omega)]
   ·have : l.length = m.length := by omega
    rw [this, List.drop_length, cmpL, cmpI, if_neg (by omega), if_neg (by omega)]
 ·rw [hI]
  exact ⟨0, [], by omega, Nat.zero_le _, Nat.zero_le _, rfl, rfl, rfl, by simp only [Qqf], rfl⟩
theorem Yr : ∀ (n : Nat), n ≤ 1000000 → ∀ a b : T, a.nds ≤ n → Pure Tryz.prog 53 [a.av, b.av] (.i (cmpT a b))
 | 0, _, a, b, hn => by have := T.Qo1 a; omega
 | n + 1, hn1, a, b, hn => by
  intro h
  have e := Qj1 a b
  have r1 := Qel a
  have r2 := Qel b
  have c1 := QbJ (Xg a.kind) (Xg b.kind)
  cases h1 : (cmpI (Xg a.kind) (Xg b.kind) != 0) with
  | true =>
   rw [if_pos h1] at e
   refine Qh Tryz.func53 rfl Tryz.call53 Tryz.ntmps53 (congrArg Array.toList Tryz.results53) (by simp) ?_
   repeat (first | ((first | (with_reducible (first | refine Qa fun K E hK hE => ?_ | refine Qz r1 ?_ | refine Qz r2 ?_ | refine Qz c1 ?_)) | (refine Qu (id := 1) [(0, 0), (1, 1), (2, 0), (3, 1), (4, 1), (5, 0)] mixed (by kernel_rfl) fun K hK => ?_)); simp -implicitDefEqProofs only [Qe, Qf, OpW, aop, undef, AS.ev, Qv, AV.QoY, ↓reduceIte, QA, QB, aBin, ti41, h1, seval]) | (with_reducible (first | refine Qd fun K hK => ?_ | refine Qj ?_ | refine Qq ?_)) | ((with_reducible refine hK _ ?_); clear hK) | (refine Qg rfl ?_; simp only [↓reduceIte]))
   simp only [QD, Ql, Qr, upd, ↓reduceIte, QpS, QpW]; first | refine Qc (htake _ _) (.keep (.v _)) ⟨by rw [e], rfl⟩ | refine Qc List.take_length (.keep (.v _)) ⟨by rw [e], rfl⟩
  | false =>
   rw [if_neg (by rw [h1]; simp)] at e
   have c2 := QbJ a.int b.int
   by_cases k0 : Xg a.kind = 0
   ·rw [if_pos (.inl k0)] at e
    have b0 : (Xg a.kind == 0) = true := by simpa using k0
    refine Qh Tryz.func53 rfl Tryz.call53 Tryz.ntmps53 (congrArg Array.toList Tryz.results53) (by simp) ?_
    repeat (first | ((first | (with_reducible (first | refine Qa fun K E hK hE => ?_ | refine Qp r1 ?_ | refine Qz r1 ?_ | refine Qz r2 ?_ | refine Qz c1 ?_ | refine Qp c2 ?_)) | (refine Qu (id := 1) [(0, 0), (1, 1), (2, 0), (3, 1), (4, 1), (5, 0)] mixed (by kernel_rfl) fun K hK => ?_)); simp -implicitDefEqProofs only [Qe, Qf, OpW, QK, aop, undef, AS.ev, Qv, AV.QoY, ↓reduceIte, Qm, QA, QB, aBin, ti3, ti41, Q9, h1, b0, seval]) | (with_reducible (first | refine Qd fun K hK => ?_ | refine Qi ?_ | refine Qj ?_ | refine Qn ?_ | refine Qb ?_ | refine Qq ?_ | refine Qs ?_)) | ((with_reducible refine hK _ ?_); clear hK) | (refine Qg rfl ?_; simp only [↓reduceIte, QpQ]))
    simp only [QD, Ql, Qr, upd, ↓reduceIte, QpS, QpW]; first | refine Qc (htake _ _) (.keep (.v _)) ⟨by rw [e], rfl⟩ | refine Qc List.take_length (.keep (.v _)) ⟨by rw [e], rfl⟩
   ·have b0 : (Xg a.kind == 0) = false := by simpa using k0
    by_cases k1 : Xg a.kind = 1
    ·rw [if_pos (.inr k1)] at e
     have b1 : (Xg a.kind == 1) = true := by simpa using k1
     refine Qh Tryz.func53 rfl Tryz.call53 Tryz.ntmps53 (congrArg Array.toList Tryz.results53) (by simp) ?_
     repeat (first | ((first | (with_reducible (first | refine Qa fun K E hK hE => ?_ | refine Qk fun K E hK hE => ?_ | refine Qp r1 ?_ | refine Qz r1 ?_ | refine Qz r2 ?_ | refine Qz c1 ?_ | refine Qp c2 ?_)) | (refine Qu (id := 1) [(0, 0), (1, 1), (2, 0), (3, 1), (4, 1), (5, 0)] mixed (by kernel_rfl) fun K hK => ?_)); simp -implicitDefEqProofs only [Qe, Qf, OpW, QK, aop, undef, AS.ev, Qv, AV.QoY, ↓reduceIte, Qm, QA, QB, aBin, ti3, ti41, Q9, h1, b0, b1, seval]) | (with_reducible (first | refine Qd fun K hK => ?_ | refine Qi ?_ | refine Qj ?_ | refine Qn ?_ | refine Qb ?_ | refine Qq ?_ | refine Qs ?_)) | ((with_reducible refine hK _ ?_); clear hK) | (refine Qg rfl ?_; simp only [↓reduceIte, QpQ]))
     simp only [QD, Ql, Qr, upd, ↓reduceIte, QpS, QpW]; first | refine Qc (htake _ _) (.keep (.v _)) ⟨by rw [e], rfl⟩ | refine Qc List.take_length (.keep (.v _)) ⟨by rw [e], rfl⟩
    ·rw [if_neg (by simp only [k0, k1, or_self, not_false_eq_true])] at e
     have b1 : (Xg a.kind == 1) = false := by simpa using k1
     have c3 := QiA a.name b.name
     by_cases k2 : Xg a.kind = 2
     ·rw [if_pos k2] at e
      have b2 : (Xg a.kind == 2) = true := by simpa using k2
      have c4 := QbJ a.args.length b.args.length
      cases h2 : (cmpI a.args.length b.args.length != 0) with
      | true =>
       have h2' : (cmpI a.args.length b.args.length == 0) = false := by simpa using h2
       rw [if_pos h2] at e
       refine Qh Tryz.func53 rfl Tryz.call53 Tryz.ntmps53 (congrArg Array.toList Tryz.results53) (by simp) ?_
       repeat (first | ((first | (with_reducible (first | refine Qa fun K E hK hE => ?_ | refine Qk fun K E hK hE => ?_ | refine Qp r1 ?_ | refine Qz r1 ?_ | refine Qz r2 ?_ | refine Qz c1 ?_ | refine Qp c4 ?_)) | (refine Qu (id := 1) [(0, 0), (1, 1), (2, 0), (3, 1), (4, 1), (5, 0)] mixed (by kernel_rfl) fun K hK => ?_)); simp -implicitDefEqProofs only [Qe, Qf, OpW, QK, aop, undef, AS.ev, Qv, AV.QoY, ↓reduceIte, Qm, QA, QB, aBin, aLen, goInt, ti29, un29, ti41, Xc, h1, h2', b0, b1, b2, seval]) | (with_reducible (first | refine Qd fun K hK => ?_ | refine Qi ?_ | refine Qj ?_ | refine Qn ?_ | refine Qb ?_ | refine Qq ?_ | refine Qs ?_)) | ((with_reducible refine hK _ ?_); clear hK) | (refine Qg rfl ?_; simp only [↓reduceIte, QpQ]))
       simp only [QD, Ql, Qr, upd, ↓reduceIte, QpS, QpW]; first | refine Qc (htake _ _) (.keep (.v _)) ⟨by rw [e], rfl⟩ | refine Qc List.take_length (.keep (.v _)) ⟨by rw [e], rfl⟩
      | false =>
       have h2' : (cmpI a.args.length b.args.length == 0) = true := by simpa using h2
       rw [if_neg (by rw [h2]; simp)] at e
       cases h3 : (cmpS a.name b.name != 0) with
       | true =>
        have h3' : (cmpS a.name b.name == 0) = false := by simpa using h3
        rw [if_pos h3] at e
        refine Qh Tryz.func53 rfl Tryz.call53 Tryz.ntmps53 (congrArg Array.toList Tryz.results53) (by simp) ?_
        repeat (first | ((first | (with_reducible (first | refine Qa fun K E hK hE => ?_ | refine Qk fun K E hK hE => ?_ | refine Qp r1 ?_ | refine Qz r1 ?_ | refine Qz r2 ?_ | refine Qz c1 ?_ | refine Qp c3 ?_ | refine Qp c4 ?_)) | (refine Qu (id := 1) [(0, 0), (1, 1), (2, 0), (3, 1), (4, 1), (5, 0)] mixed (by kernel_rfl) fun K hK => ?_)); simp -implicitDefEqProofs only [Qe, Qf, OpW, QK, aop, undef, AS.ev, Qv, AV.QoY, ↓reduceIte, Qm, QA, QB, aBin, aLen, goInt, ti9, ti29, un29, ti41, Xl, Xc, h1, h2', h3', b0, b1, b2, seval]) | (with_reducible (first | refine Qd fun K hK => ?_ | refine Qi ?_ | refine Qj ?_ | refine Qn ?_ | refine Qb ?_ | refine Qq ?_ | refine Qs ?_)) | ((with_reducible refine hK _ ?_); clear hK) | (refine Qg rfl ?_; simp only [↓reduceIte, QpQ]))
        simp only [QD, Ql, Qr, upd, ↓reduceIte, QpS, QpW]; first | refine Qc (htake _ _) (.keep (.v _)) ⟨by rw [e], rfl⟩ | refine Qc List.take_length (.keep (.v _)) ⟨by rw [e], rfl⟩
       | false =>
        have h3' : (cmpS a.name b.name == 0) = true := by simpa using h3
        rw [if_neg (by rw [h3]; simp)] at e
        have hnd := T.Qo1 a
        have c5 := QeG n (Yr n (by omega)) a.args b.args (by omega) (by have := QW a.args; omega)
        refine Qh Tryz.func53 rfl Tryz.call53 Tryz.ntmps53 (congrArg Array.toList Tryz.results53) (by simp) ?_
        repeat (first | ((first | (with_reducible (first | refine Qa fun K E hK hE => ?_ | refine Qk fun K E hK hE => ?_ | refine Qp r1 ?_ | refine Qz r1 ?_ | refine Qz r2 ?_ | refine Qz c1 ?_ | refine Qp c3 ?_ | refine Qp c4 ?_ | refine Qp c5 ?_)) | (refine Qu (id := 1) [(0, 0), (1, 1), (2, 0), (3, 1), (4, 1), (5, 0)] mixed (by kernel_rfl) fun K hK => ?_)); simp -implicitDefEqProofs only [Qe, Qf, OpW, QK, aop, undef, AS.ev, Qv, AV.QoY, ↓reduceIte, Qm, QA, QB, aBin, aLen, goInt, ti9, ti29, un29, ti41, Xl, Xc, h1, h2', h3', b0, b1, b2, seval]) | (with_reducible (first | refine Qd fun K hK => ?_ | refine Qi ?_ | refine Qj ?_ | refine Qn ?_ | refine Qb ?_ | refine Qq ?_ | refine Qs ?_)) | ((with_reducible refine hK _ ?_); clear hK) | (refine Qg rfl ?_; simp only [↓reduceIte, QpQ]))
        simp only [QD, Ql, Qr, upd, ↓reduceIte, QpS, QpW]; first | refine Qc (htake _ _) (.keep (.v _)) ⟨by rw [e], rfl⟩ | refine Qc List.take_length (.keep (.v _)) ⟨by rw [e], rfl⟩
     ·rw [if_neg k2] at e
      have b2 : (Xg a.kind == 2) = false := by simpa using k2
      have c4 := QbJ a.kind b.kind
      rw [or3, orL, orL, orL] at e
      cases h2 : (cmpI a.kind b.kind != 0) with
      | true =>
       have h2' : (cmpI a.kind b.kind == 0) = false := by simpa using h2
       rw [if_pos h2] at e
       refine Qh Tryz.func53 rfl Tryz.call53 Tryz.ntmps53 (congrArg Array.toList Tryz.results53) (by simp) ?_
       repeat (first | ((first | (with_reducible (first | refine Qa fun K E hK hE => ?_ | refine Qk fun K E hK hE => ?_ | refine Qp r1 ?_ | refine Qz r1 ?_ | refine Qz r2 ?_ | refine Qz c1 ?_ | refine Qp c4 ?_)) | (refine Qu (id := 1) [(0, 0), (1, 1), (2, 0), (3, 1), (4, 1), (5, 0)] mixed (by kernel_rfl) fun K hK => ?_)); simp -implicitDefEqProofs only [Qe, Qf, OpW, QK, aop, undef, AS.ev, Qv, AV.QoY, ↓reduceIte, Qm, QA, QB, aBin, ti3, ti41, QX, h1, b0, b1, b2, h2', seval]) | (with_reducible (first | refine Qd fun K hK => ?_ | refine Qi ?_ | refine Qj ?_ | refine Qn ?_ | refine Qb ?_ | refine Qo ?_)) | ((with_reducible refine hK _ ?_); clear hK) | (refine Qg rfl ?_; simp only [↓reduceIte, QpQ]))
       simp only [QD, Ql, Qr, upd, ↓reduceIte, QpS, QpW]; first | refine Qc (htake _ _) (.keep (.v _)) ⟨by rw [e], rfl⟩ | refine Qc List.take_length (.keep (.v _)) ⟨by rw [e], rfl⟩
      | false =>
       have h2' : (cmpI a.kind b.kind == 0) = true := by simpa using h2
       rw [if_neg (by rw [h2]; simp)] at e
       cases h3 : (cmpI a.int b.int != 0) with
       | true =>
        have h3' : (cmpI a.int b.int == 0) = false := by simpa using h3
        rw [if_pos h3] at e
        refine Qh Tryz.func53 rfl Tryz.call53 Tryz.ntmps53 (congrArg Array.toList Tryz.results53) (by simp) ?_
        repeat (first | ((first | (with_reducible (first | refine Qa fun K E hK hE => ?_ | refine Qk fun K E hK hE => ?_ | refine Qp r1 ?_ | refine Qz r1 ?_ | refine Qz r2 ?_ | refine Qz c1 ?_ | refine Qp c2 ?_ | refine Qp c4 ?_)) | (refine Qu (id := 1) [(0, 0), (1, 1), (2, 0), (3, 1), (4, 1), (5, 0)] mixed (by kernel_rfl) fun K hK => ?_)); simp -implicitDefEqProofs only [Qe, Qf, OpW, QK, aop, undef, AS.ev, Qv, AV.QoY, ↓reduceIte, Qm, QA, QB, aBin, ti3, ti41, QX, Q9, h1, b0, b1, b2, h2', h3', seval]) | (with_reducible (first | refine Qd fun K hK => ?_ | refine Qi ?_ | refine Qj ?_ | refine Qn ?_ | refine Qb ?_ | refine Qo ?_)) | ((with_reducible refine hK _ ?_); clear hK) | (refine Qg rfl ?_; simp only [↓reduceIte, QpQ]))
        simp only [QD, Ql, Qr, upd, ↓reduceIte, QpS, QpW]; first | refine Qc (htake _ _) (.keep (.v _)) ⟨by rw [e], rfl⟩ | refine Qc List.take_length (.keep (.v _)) ⟨by rw [e], rfl⟩
       | false =>
        have h3' : (cmpI a.int b.int == 0) = true := by simpa using h3
        rw [if_neg (by rw [h3]; simp)] at e
        refine Qh Tryz.func53 rfl Tryz.call53 Tryz.ntmps53 (congrArg Array.toList Tryz.results53) (by simp) ?_
        repeat (first | ((first | (with_reducible (first | refine Qa fun K E hK hE => ?_ | refine Qk fun K E hK hE => ?_ | refine Qp r1 ?_ | refine Qz r1 ?_ | refine Qz r2 ?_ | refine Qz c1 ?_ | refine Qp c2 ?_ | refine Qp c3 ?_ | refine Qp c4 ?_)) | (refine Qu (id := 1) [(0, 0), (1, 1), (2, 0), (3, 1), (4, 1), (5, 0)] mixed (by kernel_rfl) fun K hK => ?_)); simp -implicitDefEqProofs only [Qe, Qf, OpW, QK, aop, undef, AS.ev, Qv, AV.QoY, ↓reduceIte, Qm, QA, QB, aBin, ti3, ti9, ti41, QX, Q9, Xl, h1, b0, b1, b2, h2', h3', seval]) | (with_reducible (first | refine Qd fun K hK => ?_ | refine Qi ?_ | refine Qj ?_ | refine Qn ?_ | refine Qb ?_ | refine Qo ?_)) | ((with_reducible refine hK _ ?_); clear hK) | (refine Qg rfl ?_; simp only [↓reduceIte, QpQ]))
        simp only [QD, Ql, Qr, upd, ↓reduceIte, QpS, QpW]; first | refine Qc (htake _ _) (.keep (.v _)) ⟨?_, rfl⟩ | refine Qc List.take_length (.keep (.v _)) ⟨?_, rfl⟩
        rw [e, orL]; split <;> simp_all
theorem QgX (a b : T) (ha : a.nds ≤ 1000000) : Pure Tryz.prog 41 [a.av, b.av] (.b (cmpT a b == 0)) := by
 intro h
 have c := Yr 1000000 (Nat.le_refl _) a b ha
 refine Qh Tryz.func41 rfl Tryz.call41 Tryz.ntmps41 (congrArg Array.toList Tryz.results41) (by simp) ?_
 repeat (first | ((first | (with_reducible (first | refine Qa fun K E hK hE => ?_ | refine Qp c ?_))); simp -implicitDefEqProofs only [Qe, Qf, OpW, QK, aop, undef, AS.ev, Qv, AV.QoY, ↓reduceIte, QA, QB, aBin, ti41, seval]) | (with_reducible refine Qj ?_) | ((with_reducible refine hK _ ?_); clear hK))
 simp only [QD, Ql, Qr, upd, ↓reduceIte, QpS, QpW]; first | refine Qc (htake _ _) (.keep (.v _)) ⟨rfl, rfl⟩ | refine Qc List.take_length (.keep (.v _)) ⟨rfl, rfl⟩
def Tri (x y z : Int) : Prop := x ≤ 0 → y ≤ 0 → z ≤ 0 ∧ (z = 0 ↔ x = 0 ∧ y = 0)
def lexI (x1 x2 : Int) : Int := if (x1 != 0) = true then x1 else x2
theorem Yx {x1 : Int} (h : x1 ≠ 0) (x2 : Int) : lexI x1 x2 = x1 := by rw [lexI, if_pos (by simpa using h)]
theorem XZ (x2 : Int) : lexI 0 x2 = x2 := rfl
theorem Yj (x1 x2 : Int) : lexI (-x1) (-x2) = -lexI x1 x2 := by
 by_cases h : x1 = 0
 ·subst h; rw [show (-0 : Int) = 0 from rfl, XZ, XZ]
 ·rw [Yx h, Yx (by omega)]
theorem Zj {x1 x2 : Int} : lexI x1 x2 = 0 ↔ x1 = 0 ∧ x2 = 0 := by
 by_cases h : x1 = 0
 ·subst h; rw [XZ]; simp
 ·rw [Yx h]; simp [h]
theorem YN {x1 y1 z1 x2 y2 z2 : Int} (H : Tri x1 y1 z1) (K : x1 = 0 → y1 = 0 → Tri x2 y2 z2) : Tri (lexI x1 x2) (lexI y1 y2) (lexI z1 z2) := by
 intro hx hy
 have h1 : x1 ≤ 0 := by
  by_cases h : x1 = 0
  ·omega
  ·rw [Yx h] at hx; exact hx
 have h2 : y1 ≤ 0 := by
  by_cases h : y1 = 0
  ·omega
  ·rw [Yx h] at hy; exact hy
 obtain ⟨h3, h4⟩ := H h1 h2
 by_cases hz : z1 = 0
 ·obtain ⟨rfl, rfl⟩ := h4.1 hz
  subst hz
  rw [XZ] at hx hy
  rw [XZ, XZ, XZ]
  exact K rfl rfl hx hy
 ·rw [Yx hz]
  refine ⟨h3, fun h => absurd h hz, fun h => ?_⟩
  exact absurd (h4.2 ⟨(Zj.1 h.1).1, (Zj.1 h.2).1⟩) hz
theorem QcJ : Tri 0 0 0 := fun _ _ => ⟨Int.le_refl _, by simp⟩
theorem YL (a b : Int) : cmpI b a = -cmpI a b := by simp only [cmpI]; split <;> split <;> (try split) <;> omega
theorem ZI (a b d : Int) : Tri (cmpI a b) (cmpI b d) (cmpI a d) := by
 intro h1 h2
 simp only [cmpI] at *
 split at h1 <;> split at h2 <;> (try split at h1) <;> (try split at h2) <;> (constructor <;> (try constructor) <;> (try intro h) <;> (repeat (first | split | split at h)) <;> omega)
def cmpB : List UInt8 → List UInt8 → Int
 | [], [] => 0
 | [], _ :: _ => -1
 | _ :: _, [] => 1
 | a :: l, b :: m => lexI (cmpI (a.toNat : Nat) (b.toNat : Nat)) (cmpB l m)
theorem Qj8 : ∀ l m : List UInt8, (if Op.bytesLess l m = true then (-1 : Int) else if (!(Op.bytesLess l m || l == m)) = true then 1 else 0) = cmpB l m
 | [], [] => rfl
 | [], _ :: _ => rfl
 | _ :: _, [] => rfl
 | a :: l, b :: m => by
  have ih := Qj8 l m
  have hab : a < b ↔ a.toNat < b.toNat := UInt8.lt_iff_toNat_lt
  rw [cmpB]
  by_cases h1 : a.toNat < b.toNat
  ·have e : cmpI (a.toNat : Nat) (b.toNat : Nat) = -1 := by rw [cmpI, if_pos (by omega)]
   rw [e, Yx (by decide)]
   simp [Op.bytesLess, hab.2 h1]
  ·by_cases h2 : a.toNat = b.toNat
   ·have h3 : a = b := UInt8.toNat_inj.1 h2
    subst h3
    have e : cmpI (a.toNat : Nat) (a.toNat : Nat) = 0 := by simp [cmpI]
    rw [e, XZ, ← ih]
    simp [Op.bytesLess]
   ·have e : cmpI (a.toNat : Nat) (b.toNat : Nat) = 1 := by rw [cmpI, if_neg (by omega), if_pos (by omega)]
    have h3 : ¬ a = b := fun h => h2 (by rw [h])
    have h4 : ¬ a < b := fun h => h1 (hab.1 h)
    rw [e, Yx (by decide)]
    simp [Op.bytesLess, h3, h4]
theorem QeH (a b : ByteArray) : cmpS a b = cmpB a.toList b.toList := Qj8 _ _
theorem Qgg : ∀ l m, cmpB m l = -cmpB l m
 | [], [] => rfl
 | [], _ :: _ => rfl
 | _ :: _, [] => rfl
 | a :: l, b :: m => by rw [cmpB, cmpB, Qgg l m, YL, Yj]
theorem Qiu : ∀ l m n, Tri (cmpB l m) (cmpB m n) (cmpB l n)
 | [], [], [] => QcJ
 | [], [], _ :: _ => fun _ _ => ⟨by simp only [cmpB]; decide, by simp [cmpB]⟩
 | [], _ :: _, [] => fun _ h => absurd h (by simp only [cmpB]; decide)
 | [], _ :: _, _ :: _ => fun _ _ => ⟨by simp only [cmpB]; decide, by simp [cmpB]⟩
 | _ :: _, [], _ => fun h => absurd h (by simp only [cmpB]; decide)
 | _ :: _, _ :: _, [] => fun _ h => absurd h (by simp only [cmpB]; decide)
 | a :: l, b :: m, d :: n => YN (ZI _ _ _) fun _ _ => Qiu l m n
theorem Qdz (a b : ByteArray) : cmpS b a = -cmpS a b := by rw [QeH, QeH, Qgg]
theorem Qfc (a b d : ByteArray) : Tri (cmpS a b) (cmpS b d) (cmpS a d) := by rw [QeH, QeH, QeH]; exact Qiu _ _ _
def QjP (r k i : Int) (n : ByteArray) (l : List T) (k' i' : Int) (n' : ByteArray) (l' : List T) : Int := if r = 0 ∨ r = 1 then cmpI i i' else if r = 2 then lexI (cmpI l.length l'.length) (lexI (cmpS n n') (cmpL l l')) else lexI (cmpI k k') (lexI (cmpI i i') (lexI (cmpS n n') 0))
theorem QaG (k i : Int) (n : ByteArray) (l : List T) (k' i' : Int) (n' : ByteArray) (l' : List T) : cmpT (.mk k i n l) (.mk k' i' n' l') = lexI (cmpI (Xg k) (Xg k')) (QjP (Xg k) k i n l k' i' n' l') := by rw [cmpT]; rfl
theorem QaH (a b : T) (l m : List T) : cmpL (a :: l) (b :: m) = lexI (cmpT a b) (cmpL l m) := by rw [cmpL]; rfl
theorem QaI {a b : Int} : cmpI a b = 0 ↔ a = b := by simp only [cmpI]; split <;> (try split) <;> (constructor <;> intro h <;> omega)
mutual
theorem Qkz : ∀ a b : T, cmpT b a = -cmpT a b
 | .mk k i n l, .mk k' i' n' l' => by
  rw [QaG, QaG, YL (Xg k)]
  by_cases hr : Xg k = Xg k'
  ·rw [QaI.2 hr, show (-0 : Int) = 0 from rfl, XZ, XZ, ← hr]
   have ih := Qbr l l'
   generalize Xg k = r
   unfold QjP
   by_cases q1 : r = 0 ∨ r = 1
   ·rw [if_pos q1, if_pos q1]; exact YL _ _
   ·rw [if_neg q1, if_neg q1]
    by_cases q2 : r = 2
    ·rw [if_pos q2, if_pos q2, YL (l.length : Int), Qdz n, ih, Yj, Yj]
    ·rw [if_neg q2, if_neg q2, YL k, YL i, Qdz n]
     rw [← Yj, ← Yj, ← Yj]; rfl
  ·have e0 : cmpI (Xg k) (Xg k') ≠ 0 := fun h => hr (QaI.1 h)
   rw [Yx e0, Yx (by omega)]
theorem Qbr : ∀ l m : List T, cmpL m l = -cmpL l m
 | [], [] => by simp [cmpL]
 | [], b :: m => by simp [cmpL]
 | a :: l, [] => by simp [cmpL]
 | a :: l, b :: m => by rw [QaH, QaH, Qkz a b, Qbr l m, Yj]
end
mutual
theorem QmF : ∀ a b d : T, Tri (cmpT a b) (cmpT b d) (cmpT a d)
 | .mk k i n l, .mk k' i' n' l', .mk k2 i2 n2 l2 => by
  rw [QaG, QaG, QaG]
  refine YN (ZI _ _ _) fun h1 h2 => ?_
  have h1 := QaI.1 h1
  have ih := QcL l l' l2
  rw [← h1]
  generalize Xg k = r
  unfold QjP
  by_cases q1 : r = 0 ∨ r = 1
  ·rw [if_pos q1, if_pos q1, if_pos q1]; exact ZI _ _ _
  ·rw [if_neg q1, if_neg q1, if_neg q1]
   by_cases q2 : r = 2
   ·rw [if_pos q2, if_pos q2, if_pos q2]
    exact YN (ZI _ _ _) fun _ _ => YN (Qfc _ _ _) fun _ _ => ih
   ·rw [if_neg q2, if_neg q2, if_neg q2]
    exact YN (ZI _ _ _) fun _ _ => YN (ZI _ _ _) fun _ _ => YN (Qfc _ _ _) fun _ _ => QcJ
theorem QcL : ∀ l m n : List T, Tri (cmpL l m) (cmpL m n) (cmpL l n)
 | [], [], [] => by simp only [cmpL]; exact QcJ
 | [], [], _ :: _ => fun _ _ => ⟨by simp only [cmpL]; decide, by simp [cmpL]⟩
 | [], _ :: _, [] => fun _ h => absurd h (by simp only [cmpL]; decide)
 | [], _ :: _, _ :: _ => fun _ _ => ⟨by simp only [cmpL]; decide, by simp [cmpL]⟩
 | _ :: _, [], _ => fun h => absurd h (by simp only [cmpL]; decide)
 | _ :: _, _ :: _, [] => fun _ h => absurd h (by simp only [cmpL]; decide)
 | a :: l, b :: m, d :: n => by
  rw [QaH, QaH, QaH]
  exact YN (QmF a b d) fun _ _ => QcL l m n
end
structure Ordered {α : Type} (c : α → α → Int) : Prop where
 anti : ∀ a b, c b a = -c a b
 tri : ∀ a b d, Tri (c a b) (c b d) (c a d)
theorem Ordered.refl {α : Type} {c : α → α → Int} (h : Ordered c) (a : α) : c a a = 0 := by have := h.anti a a; omega
theorem Ordered.le_trans {α : Type} {c : α → α → Int} (h : Ordered c) {a b d : α} (h1 : c a b ≤ 0) (h2 : c b d ≤ 0) : c a d ≤ 0 := (h.tri a b d h1 h2).1
def insR {α : Type} (c : α → α → Int) (x : α) : List α → List α
 | [] => [x]
 | y :: r => if c x y < 0 then y :: insR c x r else x :: y :: r
def insC {α : Type} (c : α → α → Int) (l : List α) (x : α) : List α := (insR c x l.reverse).reverse
def YA {α : Type} (c : α → α → Int) (l : List α) : List α := l.foldl (insC c) []
theorem Qdh {α : Type} (c : α → α → Int) (x : α) : ∀ l, (insR c x l).Perm (x :: l)
 | [] => .refl _
 | y :: r => by
  rw [insR]
  split
  ·exact ((Qdh c x r).cons y).trans (.swap x y r)
  ·exact .refl _
theorem QkM {α : Type} (c : α → α → Int) (l : List α) (x : α) : (insC c l x).Perm (x :: l) :=
 (List.reverse_perm _).trans ((Qdh c x _).trans ((List.reverse_perm l).cons x))
theorem Qae {α : Type} (c : α → α → Int) : ∀ (l acc : List α), (l.foldl (insC c) acc).Perm (l ++ acc)
 | [], acc => .refl _
 | x :: l, acc => by
  rw [List.foldl_cons]
  refine (Qae c l _).trans ?_
  refine ((QkM c acc x).append_left l).trans ?_
  exact List.perm_middle
theorem Yc {α : Type} (c : α → α → Int) (l : List α) : (YA c l).Perm l := by
 have := Qae c l []
 rwa [List.append_nil] at this
def Qmf {α : Type} (c : α → α → Int) (l : List α) : Prop := l.Pairwise fun a b => c b a ≤ 0
def UpC {α : Type} (c : α → α → Int) (l : List α) : Prop := l.Pairwise fun a b => c a b ≤ 0
theorem Qgh {α : Type} {c : α → α → Int} (h : Ordered c) (x : α) : ∀ {l}, Qmf c l → Qmf c (insR c x l)
 | [], _ => by simp [insR, Qmf]
 | y :: r, hd => by
  obtain ⟨h1, h2⟩ := List.pairwise_cons.1 hd
  rw [insR]
  split
  ·rename_i hlt
   refine List.pairwise_cons.2 ⟨fun z hz => ?_, Qgh h x h2⟩
   rcases List.mem_cons.1 ((Qdh c x r).mem_iff.1 hz) with rfl | hz
   ·omega
   ·exact h1 z hz
  ·rename_i hge
   have hy : c y x ≤ 0 := by rw [h.anti]; omega
   refine List.pairwise_cons.2 ⟨fun z hz => ?_, hd⟩
   rcases List.mem_cons.1 hz with rfl | hz
   ·exact hy
   ·exact h.le_trans (h1 z hz) hy
theorem Qm4 {α : Type} {c : α → α → Int} (h : Ordered c) {l : List α} (hl : UpC c l) (x : α) : UpC c (insC c l x) := by
 have hd : Qmf c l.reverse := List.pairwise_reverse.2 hl
 exact List.pairwise_reverse.2 (Qgh h x hd)
theorem Qbj {α : Type} {c : α → α → Int} (h : Ordered c) : ∀ (l : List α) {acc : List α}, UpC c acc → UpC c (l.foldl (insC c) acc)
 | [], _, ha => ha
 | x :: l, _, ha => Qbj h l (Qm4 h ha x)
theorem Qiq {α : Type} {c : α → α → Int} (h : Ordered c) (l : List α) : UpC c (YA c l) := Qbj h l (List.Pairwise.nil)
theorem Qhl {α : Type} {c : α → α → Int} (h : Ordered c) : ∀ {l m : List α}, (∀ a ∈ l, ∀ b ∈ l, c a b = 0 → a = b) → l.Perm m → UpC c l → UpC c m → l = m
 | [], m, _, hp, _, _ => (List.nil_perm.1 hp).symm
 | a :: l, [], _, hp, _, _ => absurd hp.length_eq (by simp)
 | a :: l, b :: m, he, hp, hl, hm => by
  obtain ⟨h1, h2⟩ := List.pairwise_cons.1 hl
  obtain ⟨h3, h4⟩ := List.pairwise_cons.1 hm
  have hb : b ∈ a :: l := hp.mem_iff.2 (by simp)
  have ha : a ∈ b :: m := hp.mem_iff.1 (by simp)
  have hab : a = b := by
   rcases List.mem_cons.1 hb with e | hb'
   ·exact e.symm
   rcases List.mem_cons.1 ha with e | ha'
   ·exact e
   have q1 := h1 b hb'
   have q2 := h3 a ha'
   have q3 := h.anti a b
   exact he a (by simp) b hb (by omega)
  subst hab
  rw [Qhl h (fun x hx y hy => he x (by simp [hx]) y (by simp [hy])) ((List.perm_cons a).1 hp) h2 h4]
theorem Qjc {α : Type} {c : α → α → Int} (h : Ordered c) {l m : List α} (he : ∀ a ∈ l, ∀ b ∈ l, c a b = 0 → a = b) (hp : l.Perm m) : YA c l = YA c m := by
 refine Qhl h (fun a ha b hb => he a ((Yc c l).mem_iff.1 ha) b ((Yc c l).mem_iff.1 hb)) ?_ (Qiq h l) (Qiq h m)
 exact (Yc c l).trans (hp.trans (Yc c m).symm)
def Y2 {α : Type} (c : α → α → Int) (x : α) (l : List α) : α := l.foldl (fun best a => if c a best < 0 then a else best) x
theorem Qa7 {α : Type} (c : α → α → Int) (x a : α) (l : List α) : Y2 c x (a :: l) = Y2 c (if c a x < 0 then a else x) l := rfl
theorem Zt {α : Type} (c : α → α → Int) : ∀ (l : List α) (x : α), Y2 c x l ∈ x :: l
 | [], x => by simp [Y2]
 | a :: l, x => by
  rw [Qa7]
  have := Zt c l (if c a x < 0 then a else x)
  rcases List.mem_cons.1 this with e | e
  ·rw [e]; split <;> simp
  ·simp [e]
theorem Qdl {α : Type} {c : α → α → Int} (h : Ordered c) : ∀ (l : List α) (x y : α), y ∈ x :: l → c (Y2 c x l) y ≤ 0
 | [], x, y, hy => by
  obtain rfl : y = x := by simpa using hy
  show c y y ≤ 0
  rw [h.refl]; exact Int.le_refl 0
 | a :: l, x, y, hy => by
  rw [Qa7]
  have ih := Qdl h l (if c a x < 0 then a else x)
  have h0 := ih _ (List.mem_cons_self ..)
  rcases List.mem_cons.1 hy with rfl | hy
  ·refine h.le_trans h0 ?_
   split
   ·omega
   ·rw [h.refl]; exact Int.le_refl 0
  rcases List.mem_cons.1 hy with rfl | hy
  ·refine h.le_trans h0 ?_
   split
   ·rw [h.refl]; exact Int.le_refl 0
   ·rw [h.anti]; omega
  ·exact ih y (by simp [hy])
theorem Qdp {α : Type} {c : α → α → Int} (h : Ordered c) {x x' : α} {l l' : List α} (h1 : ∀ y ∈ x :: l, ∃ z ∈ x' :: l', c z y ≤ 0) (h2 : ∀ z ∈ x' :: l', ∃ y ∈ x :: l, c y z ≤ 0) : c (Y2 c x l) (Y2 c x' l') = 0 := by
 obtain ⟨z, hz, h3⟩ := h1 _ (Zt c l x)
 obtain ⟨y, hy, h4⟩ := h2 _ (Zt c l' x')
 have h5 := h.le_trans (Qdl h l' x' z hz) h3
 have h6 := h.le_trans (Qdl h l x y hy) h4
 have h7 := h.anti (Y2 c x l) (Y2 c x' l')
 omega
mutual
/-- the occurrences of variables -/
def T.vars : T → List Int
 | .mk k i _ l => if k = 1 then [i] else if k = 2 then varss l else []
def varss : List T → List Int
 | [] => []
 | t :: l => t.vars ++ varss l
end
theorem Zb : ∀ l r : List T, varss (l ++ r) = varss l ++ varss r
 | [], r => rfl
 | t :: l, r => by simp only [Qqe, varss, Zb l r, List.append_assoc]
theorem QaJ : ∀ l : List T, varss l = l.flatMap T.vars
 | [] => rfl
 | t :: l => by simp only [varss, List.flatMap_cons, QaJ l]
def ins (s : List Int) (n : Int) : List Int := if n ∈ s then s else s ++ [n]
def ded : List Int → List Int → List Int
 | s, [] => s
 | s, n :: l => ded (ins s n) l
theorem YV : ∀ s l r : List Int, ded s (l ++ r) = ded (ded s l) r
 | s, [], r => rfl
 | s, n :: l, r => by simp only [Qqe, ded, YV]
theorem QnD {s : List Int} {n v : Int} : v ∈ ins s n ↔ v ∈ s ∨ v = n := by
 unfold ins
 split
 ·rename_i h
  exact ⟨.inl, fun h' => h'.elim id (fun e => e ▸ h)⟩
 ·simp
theorem QeU : ∀ {s l : List Int} {v : Int}, v ∈ ded s l ↔ v ∈ s ∨ v ∈ l
 | s, [], v => by simp [ded]
 | s, n :: l, v => by
  simp only [ded, QeU (l := l), QnD, List.mem_cons, or_assoc]
theorem Qi8 (s : List Int) (n : Int) : (ins s n).length ≤ s.length + 1 := by
 unfold ins
 split
 ·omega
 ·simp
theorem YW : ∀ s l : List Int, (ded s l).length ≤ s.length + l.length
 | s, [] => by simp [ded]
 | s, n :: l => by
  have h1 := YW (ins s n) l
  have h2 := Qi8 s n
  simp only [ded, QpZ]
  omega
def plc : List Int → Int → Nat
 | [], _ => 0
 | a :: l, n => if a = n then 0 else plc l n + 1
theorem Qes {n : Int} : ∀ {s : List Int}, n ∈ s → plc s n < s.length
 | a :: s, h => by
  simp only [plc, QpZ]
  split
  ·omega
  ·rename_i hne
   have := Qes (s := s) (n := n) (by rcases List.mem_cons.1 h with h | h; exact absurd h.symm hne; exact h)
   omega
theorem QlC {n : Int} : ∀ {s : List Int} (h : plc s n < s.length), s[plc s n] = n
 | a :: s, h => by
  simp only [plc] at h ⊢
  by_cases e : a = n
  ·simp [e]
  ·simp only [if_neg e, QpZ] at h ⊢
   simp only [List.getElem_cons_succ]
   exact QlC (by omega)
theorem QbR {n : Int} {s : List Int} (h : n ∈ s) : s[plc s n]'(Qes h) = n := QlC _
theorem Qb8 : ∀ {s : List Int} {i : Nat} (hn : s.Nodup) (h : i < s.length), plc s s[i] = i
 | a :: s, 0, hn, h => by simp [plc]
 | a :: s, i + 1, hn, h => by
  rw [List.nodup_cons] at hn
  have hi : i < s.length := by simpa using h
  have hne : a ≠ s[i] := fun e => hn.1 (e ▸ List.getElem_mem hi)
  simp only [List.getElem_cons_succ, plc, if_neg hne, Qb8 hn.2 hi]
end Go.Proofs.YtniljpjjnmkoaaaGreatDoor.Ab

