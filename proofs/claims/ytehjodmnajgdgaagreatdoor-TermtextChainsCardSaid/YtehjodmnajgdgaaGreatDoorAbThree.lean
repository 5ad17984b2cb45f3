/-
  An abstract program logic, contracts of functions, and laws of terms and rules (part 3).
-/
import Derived.Test.YtehjodmnajgdgaaGreatDoorAbTwo
import Derived.Below
import Derived.Lib.Strings
import Derived.Shelf.Strings.Builder1
import Derived.Shelf.Strings.Trim
import Derived.Shelf.Strconv.Atoi
import Derived.Shelf.Strconv.Itoa0
import Derived.Shelf.Strconv.Itoa1
import Derived.Shelf.LaysM
import Derived.Shelf.Strconv.Itoa2
import Derived.Shelf.Strconv.Itoa3
import Derived.Shelf.Strconv.AtoiErrFast
import Derived.Shelf.Strconv.ParseIntEmpty
import Derived.Shelf.Strconv.AtoiFail
import Derived.Shelf.Strconv.Clone
import Derived.Shelf.Strconv.SyntaxError
import Derived.Shelf.LaysC
import Derived.Shelf.Strconv.ToError
import Derived.Shelf.Strconv.Lower
import Derived.Shelf.Strconv.ParseUint10
import Derived.Shelf.Strconv.ParseUint10Empty
import Derived.Shelf.Strconv.ParseUint10Any
import Derived.Shelf.Strconv.ParseInt10
import Derived.Shelf.Strconv.AtoiLong
import Derived.Shelf.Strconv.AtoiInnerAll
import Derived.Shelf.Strconv.RangeError
import Derived.Shelf.Strconv.ToErrorRange
import Derived.Shelf.Strconv.AtoiAll
import Derived.Shelf.Strconv.ErrVarAll
import Derived.Shelf.Strings.Search1
import Derived.Shelf.Strings.Search2
import Derived.Shelf.Strings.Search3
import Derived.Shelf.Strings.Shaped
import Derived.Test.YtehjodmnajgdgaaGreatDoorProg
import Derived.Lib.ConvBytes
import Derived.Lib.AtoiErrMem
import Derived.ProofKit
import Derived.WalkKit
import Derived.OpenShut
import Derived.LaidSub
import Derived.Lib.LaidTab
import Derived.Lib.ItoaNum
import Derived.Lib.ItoaMem
import Derived.Lib.AtoiTie
import Derived.RecoverIn
set_option linter.unusedVariables false
set_option linter.unusedSimpArgs false
set_option maxHeartbeats 4000000
namespace Go.Proofs.YtehjodmnajgdgaaGreatDoor.Ab
theorem QeW {P : Program} {c : Cx} (hst : St c) {t e : TypeId} {n len : Nat} {parts : List (Nat × AV)} {vals : Array (Nat × Value)} {r : AV} {h' : AH} (he : XA P t = some (e, n)) (ha : QP P t len parts c.h = some (r, h'))
    (hi : parts.map (·.1) = vals.toList.map (·.1)) (hv : RelL c (parts.map (·.2)) (vals.toList.map (·.2)).toArray) :
    ∃ y c', (Instr.buildSlice t len vals).run P c.w = .ok y c'.w ∧ Ev c c' ∧ St c' ∧ c'.h = c.h ++ [.grow e n (parts.map (·.2)).length] ∧ Rel c' (.sl n (parts.map (·.2)) (some c.h.length)) y := by
  unfold QP at ha
  · obtain ⟨hu, hsz⟩ := Yb he
    simp only [he] at ha
    split at ha
    · rename_i hh
      obtain ⟨h1, h2, h3, h4, h5⟩ := hh
      cases hz : Yc P e with
      | none => simp [hz] at h5
      | some z =>
        obtain ⟨v, hrun, rfl⟩ := Y9 hz
        simp only [hz, Option.any_some, Bool.and_eq_true, beq_iff_eq] at h5
        obtain ⟨hrl0, hone0⟩ := Zp (ZP c v) h5.1
        have hvn : v.cells.size = n := by rw [hrl0.1]; exact h5.2
        have hlen : parts.length = len := by have := congrArg List.length h1; simpa using this
        have hall : ∀ x ∈ parts.map (·.2), x.QmP = true ∧ x.cells.length = n := by
          intro x hx
          simp only [List.mem_map] at hx
          obtain ⟨p, hp, rfl⟩ := hx
          simp only [List.all_eq_true, Bool.and_eq_true, beq_iff_eq] at h2
          exact h2 p hp
        -- the zero cells
        let zs : Array Value := (Array.range (len * n)).map (v.cells[· % v.cells.size]!)
        have hzs : zs.size = len * n := by simp [zs]
        have hzone : ∀ x ∈ zs.toList, x.oneCell' = true := by
          intro x hx
          simp only [zs, Array.mem_toList_iff, Array.mem_map] at hx
          obtain ⟨i, _, rfl⟩ := hx
          have hlt : i % v.cells.size < v.cells.size := Nat.mod_lt _ (by omega)
          rw [getElem!_pos v.cells _ hlt]
          exact hone0 _ (by rw [Array.mem_toList_iff]; exact Array.getElem_mem hlt)
        have hjunk : RelL c (List.replicate (len * n) AV.junk) zs := by
          refine ⟨by simp [hzs], fun j a u ha hu => ?_⟩
          rw [List.getElem?_replicate] at ha
          split at ha
          · cases ha; exact .junk u
          · cases ha
        have hfill : Yj (fun i => some (i * n, n)) (List.replicate (len * n) AV.junk) parts = some (flat (parts.map (·.2))) := by
          have := Qer (n := n) (parts.map (·.2)) 0 (List.replicate (len * n) AV.junk) hall (by simp [hlen])
          have e : (List.range' 0 (parts.map (·.2)).length).zip (parts.map (·.2)) = parts := by
            rw [List.length_map, hlen, ← List.range_eq_range', ← h1]
            exact Qa7 parts
          rw [e] at this
          rw [this]
          simp [hlen]
        obtain ⟨cs', hf, hrl, _, hone⟩ := QaL hi hv hfill hjunk hzone
        have hfl : (flat (parts.map (·.2))).length = len * n := by
          rw [flat_length (fun x hx => (hall x hx).2)]; simp [hlen]
        have hrun' : (Instr.buildSlice t len vals).run P c.w = .ok (.slice (some ⟨c.w.heap.size, 0, none⟩) len len) (c.w.alloc (.cells cs' e)) := by
          have h3' : ¬ len * n > 2 ^ 24 := by omega
          simp only [Instr.buildSlice, Sem.run_bind, underlying, run_program, Result.andThen_ok, hu, Sem.run_pure, hsz, h3', if_false]
          by_cases h0 : len * n = 0
          · have hz0 : zs = (Array.range (len * n)).map ((#[] : Array Value)[· % (#[] : Array Value).size]!) := by
              apply Array.ext
              · simp [hzs]
              · intro i h1 h2; simp [hzs, h0] at h1
            rw [if_pos h0]
            simp only [Sem.run_bind, Sem.run_pure, Result.andThen_ok]
            rw [← hz0, hf]
            rfl
          · rw [if_neg h0]
            simp only [Sem.run_bind, hrun, Result.andThen_ok, Sem.run_pure]
            rw [hf]
            rfl
        have hmaxl : len ≤ maxLen := by
          have : len * 1 ≤ len * n := Nat.mul_le_mul_left _ h4
          have h24 : (2 : Nat) ^ 24 = 16777216 := by decide
          simp only [maxLen]; omega
        have hl' : (parts.map (·.2)).length = len := by simp [hlen]
        have hg := Grows.alloc c.w (.cells cs' e)
        have ho : ∀ B, some c.w.heap.size = some B → c.w.heap.size ≤ B := fun B h => by cases h; exact Nat.le_refl _
        have hev := Ev.add hst hg (.grow e n (parts.map (·.2)).length) (some c.w.heap.size) ho
        have hρ : (c.add (c.w.alloc (.cells cs' e)) (.grow e n (parts.map (·.2)).length) (some c.w.heap.size)).ρ c.h.length = some c.w.heap.size := by simp [Cx.add]
        have hcs : cs'.size = (parts.map (·.2)).length * n := by rw [hrl.1, hfl, hl']
        have hst' : St (c.add (c.w.alloc (.cells cs' e)) (.grow e n (parts.map (·.2)).length) (some c.w.heap.size)) := by
          refine St.add hst hg _ _ ho ?_
          intro B hB
          rw [hρ] at hB; cases hB
          exact ⟨cs', Xf _ _, by omega⟩
        refine ⟨_, c.add (c.w.alloc (.cells cs' e)) (.grow e n (parts.map (·.2)).length) (some c.w.heap.size), hrun', hev, hst', rfl, ?_⟩
        have := YR (c := c.add (c.w.alloc (.cells cs' e)) (.grow e n (parts.map (·.2)).length) (some c.w.heap.size)) hst' (b := c.h.length) (B := c.w.heap.size) (s := n) (cap := (parts.map (·.2)).length) (e := e) (xs := parts.map (·.2)) (cur := cs') (by simp [Cx.add]) hρ (Xf _ _) hcs (Nat.le_refl _) (by rw [hl']; exact hmaxl) (fun x hx => (hall x hx).2) (fun j a ha => by
          have hlt : j < cs'.size := by rw [hrl.1]; exact QN ha
          exact ⟨cs'[j], Array.getElem?_eq_getElem hlt, hone _ (by rw [Array.mem_toList_iff]; exact Array.getElem_mem hlt), (hrl.2 j a _ ha (Array.getElem?_eq_getElem hlt)).ev hst hev⟩)
        exact (show Value.slice (some ⟨c.w.heap.size, 0, none⟩) (parts.map (·.2)).length (parts.map (·.2)).length = Value.slice (some ⟨c.w.heap.size, 0, none⟩) len len by rw [hl']) ▸ this
    · cases ha
def TokW (P : Program) (N : Nat) (ops : Array Oper) (o : Oper) (K : AS → Prop) (s : AS) : Prop :=
  match Qg ops s.tm o with
  | some true => (match o.op with
    | .buildSlice t len ps => (match XA P t with
      | some (e, n) => (QP P t len (ps.toList.map fun p => (p.1, s.ev p.2)) s.h).isSome = true ∧ K (AS.put N { s with h := s.h ++ [.grow e n (ps.toList.map fun p => s.ev p.2).length] } o.dst (.sl n (ps.toList.map fun p => s.ev p.2) (some s.h.length)))
      | none => False)
    | _ => False)
  | some false => K (AS.put N s o.dst (.v undef))
  | none => False
theorem QiU {P : Program} {N : Nat} {base : Bs × Fence} {o : Oper} {s : AS} {t : TypeId} {len : Nat} {ps : Array (Nat × Operand)} {e : TypeId} {m : Nat} (hop : o.op = .buildSlice t len ps) (he : XA P t = some (e, m)) {K : AS → Prop}
    (ha : (QP P t len (ps.toList.map fun p => (p.1, s.ev p.2)) s.h).isSome = true)
    (H : K (AS.put N { s with h := s.h ++ [.grow e m (ps.toList.map fun p => s.ev p.2).length] } o.dst (.sl m (ps.toList.map fun p => s.ev p.2) (some s.h.length)))) {F : Fence} {n : Nat} {c : Cx} {a : Act} (hF : WF F) (hst : St c) (hr : SR N base c s a)
    {next : Act → World → Prop} {Qx : Exit → Act → World → Prop} (hK : ∀ s' c' a', K s' → Ev c c' → St c' → SR N base c' s' a' → next a' c'.w) : o.wpIn F n P a c.w next Qx := by
  have hev : ∀ x, Rel c (s.ev x) (a.eval x) := hr.eval
  refine ⟨fun f _ => hF.fn f, ?_⟩
  rw [Oper.semAt_eq _ _ _ (fun q => by rw [hop]; intro h; cases h)]
  obtain ⟨⟨r, h'⟩, ha⟩ := Option.isSome_iff_exists.1 ha
  rw [← hr.h] at ha
  obtain ⟨h1, h2⟩ := QcR hev ps
  obtain ⟨y, c', hrun, h3, h4, h5, h6⟩ := QeW hst he ha h1 h2
  have hrun' : (execOp a.eval o).run P c.w = .ok (.value y) c'.w := by
    simp only [execOp, hop, Sem.run_bind, hrun, Result.andThen_ok, Sem.run_pure]
  rw [hrun']
  have e1 : (ps.toList.map fun p => (p.1, s.ev p.2)).map (·.2) = ps.toList.map fun p => s.ev p.2 := by rw [List.map_map]; rfl
  rw [e1] at h5 h6
  have hp := hr.put hst h3 o.dst h6
  rw [h5, hr.h] at hp
  exact hK _ c' _ H h3 h4 hp
theorem QcI {P : Program} {N : Nat} {base : Bs × Fence} {ops : Array Oper} {Q : AS → Prop} {E : AV → AS → Prop} {F : Fence} {n : Nat} (hF : WF F) {Qx : Exit → Act → World → Prop} {tail : List Nat} : ∀ (l : List Oper) (k : Nat) (s : AS) (c : Cx) (a : Act), (∀ j, j < l.length → l[j]? = ops[k + j]?) →
    OpsW P N ops l Q E s → St c → SR N base c s a → (∀ s' c' a', Q s' → Ev c c' → St c' → SR N base c' s' a' → wpOpsIn F n P ops Qx tail a' c'.w) →
    (∀ r s' c' a' x, E r s' → Ev c c' → St c' → SR N base c' s' a' → Rel c' r x → Qx (.panic [{ v := x, recovered := false }]) a' c'.w) → wpOpsIn F n P ops Qx (List.range' k l.length ++ tail) a c.w
  | [], k, s, c, a, hl, H, hst, hr, hQ, hE => by
    simp only [Qnz, List.range'_zero, QnM]
    exact hQ s c a H (Ev.refl c) hst hr
  | o :: l, k, s, c, a, hl, H, hst, hr, hQ, hE => by
    have h0 : ops[k]? = some o := by simpa using (hl 0 (by simp)).symm
    have hl' : ∀ j, j < l.length → l[j]? = ops[k + 1 + j]? := fun j hj => by have := hl (j + 1) (by simp; omega); simpa [Nat.add_assoc, Nat.add_comm 1 j] using this
    simp only [Qny, List.range'_succ, QnN, wpOpsIn, h0]
    simp only [OpsW] at H
    split at H
    · rename_i hw
      rw [XF hr hw]
      simp only [if_true]
      refine Qbi H hF hst hr ?_ ?_
      · intro s' c' a' hK h1 h2 h3
        exact QcI hF l (k + 1) s' c' a' hl' hK h2 h3 (fun s2 c2 a2 q e2 t2 r2 => hQ s2 c2 a2 q (Ev.trans hst h1 e2) t2 r2) (fun r s2 c2 a2 x q e2 t2 r2 => hE r s2 c2 a2 x q (Ev.trans hst h1 e2) t2 r2)
      · intro r s' c' x he h1 h2 h3 hx
        exact hE r s' c' a x he h1 h2 h3 hx
    · rename_i hw
      rw [XF hr hw]
      simp only [Qnp, if_false]
      refine ⟨fun f _ => hF.fn f, ?_⟩
      have hr' := hr.put hst (Ev.refl c) o.dst (.v undef)
      rw [hr.h] at hr'
      exact QcI hF l (k + 1) _ c _ hl' H hst hr' hQ hE
    · exact H.elim
theorem Qds {P : Program} {N : Nat} {Q : AExit → AS → Prop} {s : AS} {id : Nat} {ops : Array Oper} (i : Nat) {o : Oper} (ho : ops.toList[i]? = some o)
    (H : ∀ (K : AS → Prop) (E : AV → AS → Prop), (∀ s, Q .normal s → K s) → (∀ r s, Q (.panic r) s → E r s) → OpsW P N ops (ops.toList.take i) (TokW P N ops o (OpsW P N ops (ops.toList.drop (i + 1)) K E)) E s) : Yl P N (.region id ops false) Q s := by
  intro F n base c a hF hst hr R hR
  refine wpIn_region ?_
  have hlt := QN ho
  have hH := H (fun s' => Q .normal s') (fun r s' => Q (.panic r) s') (fun _ h => h) (fun _ _ h => h)
  have hi : (ops.toList.take i).length = i := by rw [List.length_take]; omega
  have hrange : List.range ops.size = List.range' 0 (ops.toList.take i).length ++ (i :: (List.range' (i + 1) (ops.toList.drop (i + 1)).length ++ [])) := by
    rw [hi, List.append_nil, List.length_drop, List.range_eq_range', ← Array.length_toList]
    have : ops.toList.length = i + (1 + (ops.toList.length - (i + 1))) := by omega
    conv => lhs; rw [this]
    rw [← List.range'_append_1, Nat.zero_add, ← List.range'_append_1]
    rfl
  have hget : ∀ j, (ops.toList.drop (i + 1))[j]? = ops[i + 1 + j]? := fun j => by rw [List.getElem?_drop]; simp
  rw [hrange]
  refine QcI hF (ops.toList.take i) 0 s c a (fun j hj => by rw [List.getElem?_take, if_pos (by omega)]; simp) hH hst hr ?_ ?_
  · intro s1 c1 a1 h1 h2 h3 h4
    have h0 : ops[i]? = some o := by rw [← ho]; simp
    have hrest : ∀ s2 c2 a2, OpsW P N ops (ops.toList.drop (i + 1)) (fun s' => Q .normal s') (fun r s' => Q (.panic r) s') s2 → Ev c c2 → St c2 → SR N (base, F) c2 s2 a2 → wpOpsIn F n P ops R (List.range' (i + 1) (ops.toList.drop (i + 1)).length ++ []) a2 c2.w := by
      intro s2 c2 a2 hq he2 hst2 hr2
      refine QcI hF _ (i + 1) s2 c2 a2 (fun j _ => hget j) hq hst2 hr2 ?_ ?_
      · intro s' c' a' hQ k1 k2 k3
        simp only [wpOpsIn]
        exact hR _ s' c' a' _ hQ (Ev.trans hst he2 k1) k2 k3 rfl
      · intro r s' c' a' x hQ k1 k2 k3 hx
        exact hR _ s' c' a' _ hQ (Ev.trans hst he2 k1) k2 k3 ⟨x, rfl, hx⟩
    simp only [wpOpsIn, h0]
    unfold TokW at h1
    split at h1
    · rename_i hw
      rw [XF h4 hw]
      simp only [if_true]
      split at h1
      · rename_i t len ps hop
        split at h1
        · rename_i e m he
          exact QiU hop he h1.1 h1.2 hF h3 h4 fun s' c' a' hK k1 k2 k3 => hrest s' c' a' hK (Ev.trans hst h2 k1) k2 k3
        · exact h1.elim
      · exact h1.elim
    · rename_i hw
      rw [XF h4 hw]
      simp only [Qnp, if_false]
      refine ⟨fun f _ => hF.fn f, ?_⟩
      have hr' := h4.put h3 (Ev.refl c1) o.dst (.v undef)
      rw [h4.h] at hr'
      exact hrest _ c1 _ h1 h2 h3 hr'
    · exact h1.elim
  · intro r s' c' a' x hQ h1 h2 h3 hx
    exact hR _ s' c' a' _ hQ h1 h2 h3 ⟨x, rfl, hx⟩
theorem QfZ {P : Program} {N : Nat} {Q : AExit → AS → Prop} {s : AS} {id : Nat} {ops : Array Oper} {y : Code} (i : Nat) {o : Oper} (ho : ops.toList[i]? = some o)
    (H : ∀ (K : AS → Prop) (E : AV → AS → Prop), (∀ s, Yl P N y Q s → K s) → (∀ r s, Q (.panic r) s → E r s) → OpsW P N ops (ops.toList.take i) (TokW P N ops o (OpsW P N ops (ops.toList.drop (i + 1)) K E)) E s) : Yl P N (.seq (.region id ops false) y) Q s :=
  Qbb (Qds i ho (fun K E hK hE => H K E hK hE))
end Go.Proofs.YtehjodmnajgdgaaGreatDoor.Ab
namespace Go.Proofs.YtehjodmnajgdgaaGreatDoor.Ab
open Go.RowKit
theorem WF.Qnb {F : Fence} (h : WF F) : F.plain = Fence.wide := by
  obtain ⟨fn, depth, alive, round⟩ := F
  obtain ⟨h1, h2, h3⟩ := h
  have h1' : ∀ f, fn f := h1
  have h2' : depth = none := h2
  have h3' : alive = false := h3
  subst h2' h3'
  have : fn = fun _ => True := funext fun f => by simpa using h1' f
  subst this
  rfl
theorem Qdx {F : Fence} (hF : WF F) {n : Nat} {P : Program} {f : FuncId} {args : Array Value} {w : World} {R : Ending → World → Prop} (h : Calls P f args w R) : CallsIn F n P f args w R :=
  QaJ (by rw [hF.Qnb]; exact callsIn_wide.2 h)
theorem Grows.of_below {w w' : World} (h : Go.RowKit.Below w.heap.size w w') : Grows w w' := ⟨h.os, h.tape, h.output, h.size, h.block⟩
theorem Ql4 {c : Cx} {vs : List Value} {vals : Array Value} (h : RelL c (vs.map AV.v) vals) : vals = vs.toArray := by
  apply Array.ext'
  apply List.ext_getElem?
  intro j
  rcases Nat.lt_or_ge j vs.length with hj | hj
  · have h1 : (vs.map AV.v)[j]? = some (.v vs[j]) := by rw [List.getElem?_map, List.getElem?_eq_getElem hj]; rfl
    have hs : vals.size = vs.length := by rw [h.1, List.length_map]
    have h2 : vals[j]? = some vals[j] := Array.getElem?_eq_getElem (by omega)
    have := h.2 j _ _ h1 h2
    rw [Array.getElem?_toList, h2, List.toList_toArray, List.getElem?_eq_getElem hj]
    generalize vals[j] = u at this
    cases this
    rfl
  · have hs : vals.size = vs.length := by rw [h.1, List.length_map]
    rw [Array.getElem?_toList, Array.getElem?_eq_none (by omega), List.toList_toArray, List.getElem?_eq_none hj]
theorem Qam {P : Program} {f : FuncId} {vs : List Value} {h : AH} {a : AV} (hcall : ∀ vals w, (callFunc f vals).run P w = .ok (.enter f vals) w)
    (H : ∀ c : Cx, St c → c.h = h → Calls P f vs.toArray c.w fun e w' => ∃ u, e = .returned u ∧ Go.RowKit.Below c.w.heap.size c.w w' ∧ ∀ c', Rel c' a u) : Xd P f (vs.map AV.v) h fun o h' => o = .ret a ∧ h' = h := by
  refine ⟨hcall, fun F n c vals hF hst hh hvals => Qdx hF ?_⟩
  rw [Ql4 hvals]
  refine (H c hst hh).mono ?_
  rintro e w' ⟨u, rfl, hb, hu⟩
  have hg := Grows.of_below hb
  exact ⟨.ret a, c.to w', ⟨rfl, hh⟩, Ev.grows hst hg, hst.grows hg, rfl, ⟨u, rfl, hu _⟩⟩
theorem QfN {P : Program} {f : FuncId} {vs : List Value} {a : AV} (hcall : ∀ vals w, (callFunc f vals).run P w = .ok (.enter f vals) w)
    (H : ∀ w, Calls P f vs.toArray w fun e w' => ∃ u, e = .returned u ∧ Go.RowKit.Below w.heap.size w w' ∧ ∀ c', Rel c' a u) : Pure P f (vs.map AV.v) a :=
  fun h => Qam hcall fun c _ _ => H c.w
end Go.Proofs.YtehjodmnajgdgaaGreatDoor.Ab
namespace Go.Proofs.YtehjodmnajgdgaaGreatDoor.Ab
def byteAt (s : ByteArray) (i : Nat) : Int := ((s.data.toList.getD i 0).toNat : Nat)
theorem QiN (s : ByteArray) (i : Nat) : 0 ≤ byteAt s i ∧ byteAt s i < 256 := by
  have := (s.data.toList.getD i 0).toNat_lt
  unfold byteAt
  omega
theorem Qix (s : ByteArray) (i : Nat) (h : i < s.size) : s[i]? = some (s.data.toList.getD i 0) := by
  have h' : i < s.data.size := h
  rw [getElem?_pos s i h]
  congr 1
  show s.data[i] = _
  rw [List.getD_eq_getElem?_getD, List.getElem?_eq_getElem (by simpa using h')]
  simp
theorem Qcz (P : Program) (t : TypeId) (ht : P.underlying t = some .string) (s : ByteArray) (i : Nat) (h : i < s.size) : pv P (Instr.index t (.string s) (.int .i64 (i : Int))) = some (.int .u8 (byteAt s i)) := by
  have hi : (0 : Int) ≤ (i : Int) := by omega
  simp only [Instr.index, asIntOf, Bind.bind, Sem.bind, Pure.pure, pv, underlying, program, ht]
  rw [if_pos hi, Int.toNat_natCast, Qix s i h]
  rfl
theorem ZD (P : Program) (t : TypeId) (ht : P.underlying t = some .string) (s : ByteArray) (h : 0 < s.size) : pv P (Instr.index t (.string s) (.int .i64 0)) = some (.int .u8 (byteAt s 0)) := Qcz P t ht s 0 h
theorem QdV (P : Program) (q : IntKind) (i : Int) (y : Nat) (code : BoundsCode) (h : 0 ≤ i ∧ i ≤ (y : Int)) : pv P (Instr.sliceBound (.int q i) y code) = some i.toNat := by
  show pv P (if 0 ≤ i ∧ i ≤ (y : Int) then pure i.toNat else boundsPanic q i y code) = _
  rw [if_pos h]; rfl
theorem Qft {α : Type} (P : Program) (a : α) : pv P (pure a : Sem α) = some a := rfl
theorem QfQ (P : Program) {t : TypeId} {d : TypeDesc} (ht : P.underlying t = some d) : pv P (underlying t) = some d := by
  simp only [underlying, program, Bind.bind, Sem.bind, pv, ht]; rfl
theorem Qj7 (P : Program) (len cap : Nat) (lo hi : Option (IntKind × Int)) (l k : Nat) (hk : match hi with | some (_, i) => 0 ≤ i ∧ i ≤ (cap : Int) ∧ i.toNat = k | none => len = k) (hl : match lo with | some (_, i) => 0 ≤ i ∧ i ≤ (k : Int) ∧ i.toNat = l | none => l = 0) :
    pv P (Instr.sliceBounds false len cap (lo.map fun x => .int x.1 x.2) (hi.map fun x => .int x.1 x.2) none) = some (l, k, cap) := by
  unfold Instr.sliceBounds
  cases hi with
  | none =>
    subst hk
    cases lo with
    | none => subst hl; rfl
    | some x =>
      obtain ⟨q, i⟩ := x
      obtain ⟨h1, h2, h3⟩ := hl
      simp only [Qn0, Qnn, Yt, Qft, Qnq, Option.isSome_none, Qnp, ↓reduceIte, QdV P q i len .sliceB ⟨h1, h2⟩, h3]
  | some x =>
    obtain ⟨q, i⟩ := x
    obtain ⟨h1, h2, h3⟩ := hk
    cases lo with
    | none =>
      subst hl
      simp only [Qn0, Qnn, Yt, Qft, Qnq, Option.isSome_none, Qnp, ↓reduceIte, QdV P q i cap .sliceAlen ⟨h1, h2⟩, h3]
    | some x =>
      obtain ⟨q', i'⟩ := x
      obtain ⟨h4, h5, h6⟩ := hl
      simp only [Qn0, Qnn, Yt, Qft, Qnq, Option.isSome_none, Qnp, ↓reduceIte, QdV P q i cap .sliceAlen ⟨h1, h2⟩, h3, QdV P q' i' k .sliceB ⟨h4, h5⟩, h6]
theorem QbZ (P : Program) (t : TypeId) (ht : P.underlying t = some .string) (s : ByteArray) (lo hi : Option (IntKind × Int)) (l k : Nat) (hk : match hi with | some (_, i) => 0 ≤ i ∧ i ≤ (s.size : Int) ∧ i.toNat = k | none => s.size = k) (hl : match lo with | some (_, i) => 0 ≤ i ∧ i ≤ (k : Int) ∧ i.toNat = l | none => l = 0) :
    pv P (Instr.sliceAt t (.string s) (lo.map fun x => .int x.1 x.2) (hi.map fun x => .int x.1 x.2) none) = some (.string (s.extract l k)) := by
  have hu : pv P (underlying t) = some .string := QfQ P ht
  have := Qj7 P s.size s.size lo hi l k hk hl
  unfold Instr.sliceAt
  rw [Yt, hu]
  show pv P (Instr.slice t (.string s) _ _ none) = _
  unfold Instr.slice
  rw [Yt, hu]
  simp only [Qnq, Option.isSome_none, Qnp, ↓reduceIte, Yt, Qft, this]
theorem QdR (P : Program) (t : TypeId) (ht : P.underlying t = some .string) (s : ByteArray) (i : Nat) (h : i ≤ s.size) : pv P (Instr.sliceAt t (.string s) (some (.int .i64 (i : Int))) none none) = some (.string (s.extract i s.size)) :=
  QbZ P t ht s (some (.i64, i)) none i s.size rfl ⟨by omega, by omega, by omega⟩
theorem Xv (P : Program) (t : TypeId) (xo yo : Operand) (a b : ByteArray) (h : a.size + b.size ≤ 9223372036854775807) : pv P (do eqGuard .add t xo yo (.string a) (.string b); binOp .add t (.string a) (.string b)) = some (.string (a ++ b)) := by
  have h1 : pv P (Op.stringOp .add a b) = some (.string (a ++ b)) := by
    unfold Op.stringOp
    simp only
    rw [if_neg (by show ¬ ((a.size + b.size : Nat) : Int) > 9223372036854775807; omega)]
    rfl
  rw [Yt]
  show (some ()).bind _ = _
  exact h1
section
variable (P : Program) (t : TypeId) (xo yo : Operand) (k : IntKind) (a b : Int)
theorem QlW (h : b ≠ 0) : pv P (do eqGuard .quo t xo yo (.int k a) (.int k b); binOp .quo t (.int k a) (.int k b)) = some (.int k (k.wrap (a.tdiv b))) := by
  cases k <;> (rw [Yt]; show pv P (Op.intDiv .quo _ a b) = _; simp [Op.intDiv, h]; rfl)
theorem Qmy (h : b ≠ 0) : pv P (do eqGuard .rem t xo yo (.int k a) (.int k b); binOp .rem t (.int k a) (.int k b)) = some (.int k (a.tmod b)) := by
  cases k <;> (rw [Yt]; show pv P (Op.intDiv .rem _ a b) = _; simp [Op.intDiv, h]; rfl)
end
theorem Qih (s : ByteArray) (i : Nat) : ((s.get! i).toNat : Int) = byteAt s i := by
  unfold byteAt
  congr 2
  show s.data[i]! = _
  rw [List.getD_eq_getElem?_getD]
  by_cases h : i < s.data.size
  · rw [getElem!_pos s.data i h, List.getElem?_eq_getElem (by simpa using h)]
    simp
  · rw [getElem!_neg s.data i h, List.getElem?_eq_none (by simpa using h)]
    rfl
theorem decode_ascii {s : ByteArray} {i : Nat} (h : byteAt s i < 128) : ((Utf8.decode s i).1 : Int) = byteAt s i ∧ (Utf8.decode s i).2 = 1 := by
  rw [← Qih] at h ⊢
  unfold Utf8.decode
  simp only [QnK]
  rw [if_pos (by omega)]
  exact ⟨rfl, rfl⟩
theorem Qi0 {s : ByteArray} {i : Nat} (h : 128 ≤ byteAt s i) : 128 ≤ (Utf8.decode s i).1 := by
  rw [← Qih] at h
  unfold Utf8.decode
  simp only [QnK]
  rw [if_neg (by omega)]
  have hr : (128 : Nat) ≤ Utf8.runeError := by decide
  repeat' split
  all_goals first | exact hr | (rename_i h; simp at h; omega) | (simp_all; omega)
end Go.Proofs.YtehjodmnajgdgaaGreatDoor.Ab
set_option maxRecDepth 4000
namespace Go.Proofs.YtehjodmnajgdgaaGreatDoor.Ab
open Go.Proofs
theorem FunW.call {P : Program} {f : FuncId} {args : List AV} {h : AH} {Q : AOut → AH → Prop} (H : Xd P f args h Q) : FunW P (.fn (.func f) [] []) args h Q := FunW.fn (by rw [List.nil_append, List.append_nil]; exact H)
theorem FunW.ret {P : Program} {fv : AV} {args : List AV} {h h' : AH} {r : AV} {Q : AOut → AH → Prop} (H : FunW P fv args h fun o h2 => o = .ret r ∧ h2 = h') (k : Q (.ret r) h') : FunW P fv args h Q := H.mono (by rintro _ _ ⟨rfl, rfl⟩; exact k)
def ofN (c : Int) : Int := if 97 ≤ c ∧ c ≤ 122 then 1 else if (65 ≤ c ∧ c ≤ 90) ∨ c = 95 then 2 else if 48 ≤ c ∧ c ≤ 57 then 4 else 0
theorem Qkp (c : Int) (hc : 0 ≤ c ∧ c < 256) : Pure Tryz.prog 126 [.v (.int .u8 c)] (.v (.int .u8 (ofN c))) := by
  intro h
  have hcs : c < 48 ∨ 48 ≤ c ∧ c ≤ 57 ∨ 58 ≤ c ∧ c ≤ 64 ∨ 65 ≤ c ∧ c ≤ 90 ∨ 91 ≤ c ∧ c ≤ 94 ∨ c = 95 ∨ c = 96 ∨ 97 ≤ c ∧ c ≤ 122 ∨ 122 < c := by omega
  rcases hcs with hc1 | hc1 | hc1 | hc1 | hc1 | hc1 | hc1 | hc1 | hc1
  · -- c < 48
    have e0 : ofN c = 0 := by simp only [ofN]; repeat' (first | rw [if_pos (by omega)] | rw [if_neg (by omega)])
    have a1 : ¬ 97 ≤ c := by omega
    have a2 : c ≤ 122 := by omega
    have a3 : ¬ 65 ≤ c := by omega
    have a4 : c ≤ 90 := by omega
    have a5 : ¬ 48 ≤ c := by omega
    have a6 : c ≤ 57 := by omega
    have a7 : (c == 95) = false := by simp; omega
    refine Qe Tryz.func126 rfl Tryz.call126 Tryz.ntmps126 (congrArg Array.toList Tryz.results126) (by simp) ?_
    repeat (first | ((first | (with_reducible (first | refine Qa fun K E hK hE => ?_ | refine Qs fun K E hK hE => ?_))); simp -implicitDefEqProofs only [Qd, Qb, Qg, OpW, aop, undef, AS.ev, Qc, Qn, Qr, Qi, Qw, Qns, ↓reduceIte, Nat.reduceLT, Nat.reduceEqDiff, aBin, Qnl, Qnm, Qnn, Qnq, Qno, QS, Xe, QnS, Qnp, beq_true, a1, a3, a5, a7]) | (with_reducible (first | refine Qh fun K hK => ?_ | refine Qq ?_ | refine Ql ?_ | refine QA ?_ | refine Qj ?_ | refine QD ?_)) | ((with_reducible refine hK _ ?_); clear hK) | (refine Qk rfl ?_; simp only [↓reduceIte, Qnp]))
    simp only [QI, Qm, Qu, upd, ↓reduceIte, Qnr, Qnv]; first | refine Qf (htake _ _) (.keep (.v _)) ⟨by rw [e0], rfl⟩ | refine Qf List.take_length (.keep (.v _)) ⟨by rw [e0], rfl⟩
  · -- 48 ≤ c ∧ c ≤ 57
    have e0 : ofN c = 4 := by simp only [ofN]; repeat' (first | rw [if_pos (by omega)] | rw [if_neg (by omega)])
    have a1 : ¬ 97 ≤ c := by omega
    have a2 : c ≤ 122 := by omega
    have a3 : ¬ 65 ≤ c := by omega
    have a4 : c ≤ 90 := by omega
    have a5 : 48 ≤ c := by omega
    have a6 : c ≤ 57 := by omega
    have a7 : (c == 95) = false := by simp; omega
    refine Qe Tryz.func126 rfl Tryz.call126 Tryz.ntmps126 (congrArg Array.toList Tryz.results126) (by simp) ?_
    repeat (first | ((first | (with_reducible (first | refine Qa fun K E hK hE => ?_ | refine Qs fun K E hK hE => ?_))); simp -implicitDefEqProofs only [Qd, Qb, Qg, OpW, aop, undef, AS.ev, Qc, Qn, Qr, Qi, Qw, Qns, ↓reduceIte, Nat.reduceLT, Nat.reduceEqDiff, aBin, Qnl, Qnm, Qnn, Qnq, Qno, QS, Xe, QnR, QnS, Qnt, Qnp, beq_true, a1, a3, a5, a6, a7]) | (with_reducible (first | refine Qh fun K hK => ?_ | refine Qq ?_ | refine Ql ?_ | refine Qj ?_ | refine Qy ?_ | refine QF ?_)) | ((with_reducible refine hK _ ?_); clear hK) | (refine Qk rfl ?_; simp only [↓reduceIte, Qnp]))
    simp only [QI, Qm, Qu, upd, ↓reduceIte, Qnr, Qnv]; first | refine Qf (htake _ _) (.keep (.v _)) ⟨by rw [e0], rfl⟩ | refine Qf List.take_length (.keep (.v _)) ⟨by rw [e0], rfl⟩
  · -- 58 ≤ c ∧ c ≤ 64
    have e0 : ofN c = 0 := by simp only [ofN]; repeat' (first | rw [if_pos (by omega)] | rw [if_neg (by omega)])
    have a1 : ¬ 97 ≤ c := by omega
    have a2 : c ≤ 122 := by omega
    have a3 : ¬ 65 ≤ c := by omega
    have a4 : c ≤ 90 := by omega
    have a5 : 48 ≤ c := by omega
    have a6 : ¬ c ≤ 57 := by omega
    have a7 : (c == 95) = false := by simp; omega
    refine Qe Tryz.func126 rfl Tryz.call126 Tryz.ntmps126 (congrArg Array.toList Tryz.results126) (by simp) ?_
    repeat (first | ((first | (with_reducible (first | refine Qa fun K E hK hE => ?_ | refine Qs fun K E hK hE => ?_))); simp -implicitDefEqProofs only [Qd, Qb, Qg, OpW, aop, undef, AS.ev, Qc, Qn, Qr, Qi, Qw, Qns, ↓reduceIte, Nat.reduceLT, Nat.reduceEqDiff, aBin, Qnl, Qnm, Qnn, Qnq, Qno, QS, Xe, QnR, QnS, Qnt, Qnp, beq_true, a1, a3, a5, a6, a7]) | (with_reducible (first | refine Qh fun K hK => ?_ | refine Qq ?_ | refine Ql ?_ | refine QA ?_ | refine Qj ?_ | refine QD ?_)) | ((with_reducible refine hK _ ?_); clear hK) | (refine Qk rfl ?_; simp only [↓reduceIte, Qnp]))
    simp only [QI, Qm, Qu, upd, ↓reduceIte, Qnr, Qnv]; first | refine Qf (htake _ _) (.keep (.v _)) ⟨by rw [e0], rfl⟩ | refine Qf List.take_length (.keep (.v _)) ⟨by rw [e0], rfl⟩
  · -- 65 ≤ c ∧ c ≤ 90
    have e0 : ofN c = 2 := by simp only [ofN]; repeat' (first | rw [if_pos (by omega)] | rw [if_neg (by omega)])
    have a1 : ¬ 97 ≤ c := by omega
    have a2 : c ≤ 122 := by omega
    have a3 : 65 ≤ c := by omega
    have a4 : c ≤ 90 := by omega
    have a5 : 48 ≤ c := by omega
    have a6 : ¬ c ≤ 57 := by omega
    have a7 : (c == 95) = false := by simp; omega
    refine Qe Tryz.func126 rfl Tryz.call126 Tryz.ntmps126 (congrArg Array.toList Tryz.results126) (by simp) ?_
    repeat (first | (((with_reducible refine Qa fun K E hK hE => ?_)); simp -implicitDefEqProofs only [Qd, Qb, Qg, OpW, aop, undef, AS.ev, Qc, Qn, Qr, Qi, Qw, Qns, ↓reduceIte, Nat.reduceLT, Nat.reduceEqDiff, aBin, Qnl, Qnm, Qnn, Qnq, Qno, Xe, QnR, QnS, Qnt, Qnp, beq_true, a1, a3, a4]) | (with_reducible (first | refine Qh fun K hK => ?_ | refine Qq ?_ | refine Ql ?_ | refine QA ?_ | refine Qj ?_ | refine Qy ?_ | refine QF ?_)) | ((with_reducible refine hK _ ?_); clear hK) | (refine Qk rfl ?_; simp only [↓reduceIte, Qnp]))
    simp only [QI, Qm, Qu, upd, ↓reduceIte, Qnr, Qnv]; first | refine Qf (htake _ _) (.keep (.v _)) ⟨by rw [e0], rfl⟩ | refine Qf List.take_length (.keep (.v _)) ⟨by rw [e0], rfl⟩
  · -- 91 ≤ c ∧ c ≤ 94
    have e0 : ofN c = 0 := by simp only [ofN]; repeat' (first | rw [if_pos (by omega)] | rw [if_neg (by omega)])
    have a1 : ¬ 97 ≤ c := by omega
    have a2 : c ≤ 122 := by omega
    have a3 : 65 ≤ c := by omega
    have a4 : ¬ c ≤ 90 := by omega
    have a5 : 48 ≤ c := by omega
    have a6 : ¬ c ≤ 57 := by omega
    have a7 : (c == 95) = false := by simp; omega
    refine Qe Tryz.func126 rfl Tryz.call126 Tryz.ntmps126 (congrArg Array.toList Tryz.results126) (by simp) ?_
    repeat (first | ((first | (with_reducible (first | refine Qa fun K E hK hE => ?_ | refine Qs fun K E hK hE => ?_))); simp -implicitDefEqProofs only [Qd, Qb, Qg, OpW, aop, undef, AS.ev, Qc, Qn, Qr, Qi, Qw, Qns, ↓reduceIte, Nat.reduceLT, Nat.reduceEqDiff, aBin, Qnl, Qnm, Qnn, Qnq, Qno, QS, Xe, QnR, QnS, Qnt, Qnp, beq_true, a1, a3, a4, a5, a6, a7]) | (with_reducible (first | refine Qh fun K hK => ?_ | refine Qq ?_ | refine Ql ?_ | refine QA ?_ | refine Qj ?_ | refine QD ?_)) | ((with_reducible refine hK _ ?_); clear hK) | (refine Qk rfl ?_; simp only [↓reduceIte, Qnp]))
    simp only [QI, Qm, Qu, upd, ↓reduceIte, Qnr, Qnv]; first | refine Qf (htake _ _) (.keep (.v _)) ⟨by rw [e0], rfl⟩ | refine Qf List.take_length (.keep (.v _)) ⟨by rw [e0], rfl⟩
  · -- c = 95
    have e0 : ofN c = 2 := by simp only [ofN]; repeat' (first | rw [if_pos (by omega)] | rw [if_neg (by omega)])
    have a1 : ¬ 97 ≤ c := by omega
    have a2 : c ≤ 122 := by omega
    have a3 : 65 ≤ c := by omega
    have a4 : ¬ c ≤ 90 := by omega
    have a5 : 48 ≤ c := by omega
    have a6 : ¬ c ≤ 57 := by omega
    have a7 : (c == 95) = true := by simp; omega
    refine Qe Tryz.func126 rfl Tryz.call126 Tryz.ntmps126 (congrArg Array.toList Tryz.results126) (by simp) ?_
    repeat (first | ((first | (with_reducible (first | refine Qa fun K E hK hE => ?_ | refine Qs fun K E hK hE => ?_))); simp -implicitDefEqProofs only [Qd, Qb, Qg, OpW, aop, undef, AS.ev, Qc, Qn, Qr, Qi, Qw, Qns, ↓reduceIte, Nat.reduceLT, Nat.reduceEqDiff, aBin, Qnl, Qnm, Qnn, Qnq, Qno, QS, Xe, QnR, QnS, Qnt, Qnp, beq_true, a1, a3, a4, a7]) | (with_reducible (first | refine Qh fun K hK => ?_ | refine Qq ?_ | refine Ql ?_ | refine Qj ?_ | refine Qy ?_ | refine QF ?_)) | ((with_reducible refine hK _ ?_); clear hK) | (refine Qk rfl ?_; simp only [↓reduceIte, Qnp]))
    simp only [QI, Qm, Qu, upd, ↓reduceIte, Qnr, Qnv]; first | refine Qf (htake _ _) (.keep (.v _)) ⟨by rw [e0], rfl⟩ | refine Qf List.take_length (.keep (.v _)) ⟨by rw [e0], rfl⟩
  · -- c = 96
    have e0 : ofN c = 0 := by simp only [ofN]; repeat' (first | rw [if_pos (by omega)] | rw [if_neg (by omega)])
    have a1 : ¬ 97 ≤ c := by omega
    have a2 : c ≤ 122 := by omega
    have a3 : 65 ≤ c := by omega
    have a4 : ¬ c ≤ 90 := by omega
    have a5 : 48 ≤ c := by omega
    have a6 : ¬ c ≤ 57 := by omega
    have a7 : (c == 95) = false := by simp; omega
    refine Qe Tryz.func126 rfl Tryz.call126 Tryz.ntmps126 (congrArg Array.toList Tryz.results126) (by simp) ?_
    repeat (first | ((first | (with_reducible (first | refine Qa fun K E hK hE => ?_ | refine Qs fun K E hK hE => ?_))); simp -implicitDefEqProofs only [Qd, Qb, Qg, OpW, aop, undef, AS.ev, Qc, Qn, Qr, Qi, Qw, Qns, ↓reduceIte, Nat.reduceLT, Nat.reduceEqDiff, aBin, Qnl, Qnm, Qnn, Qnq, Qno, QS, Xe, QnR, QnS, Qnt, Qnp, beq_true, a1, a3, a4, a5, a6, a7]) | (with_reducible (first | refine Qh fun K hK => ?_ | refine Qq ?_ | refine Ql ?_ | refine QA ?_ | refine Qj ?_ | refine QD ?_)) | ((with_reducible refine hK _ ?_); clear hK) | (refine Qk rfl ?_; simp only [↓reduceIte, Qnp]))
    simp only [QI, Qm, Qu, upd, ↓reduceIte, Qnr, Qnv]; first | refine Qf (htake _ _) (.keep (.v _)) ⟨by rw [e0], rfl⟩ | refine Qf List.take_length (.keep (.v _)) ⟨by rw [e0], rfl⟩
  · -- 97 ≤ c ∧ c ≤ 122
    have e0 : ofN c = 1 := by simp only [ofN]; repeat' (first | rw [if_pos (by omega)] | rw [if_neg (by omega)])
    have a1 : 97 ≤ c := by omega
    have a2 : c ≤ 122 := by omega
    have a3 : 65 ≤ c := by omega
    have a4 : ¬ c ≤ 90 := by omega
    have a5 : 48 ≤ c := by omega
    have a6 : ¬ c ≤ 57 := by omega
    have a7 : (c == 95) = false := by simp; omega
    refine Qe Tryz.func126 rfl Tryz.call126 Tryz.ntmps126 (congrArg Array.toList Tryz.results126) (by simp) ?_
    repeat (first | (((with_reducible refine Qa fun K E hK hE => ?_)); simp -implicitDefEqProofs only [Qd, Qb, Qg, OpW, aop, undef, AS.ev, Qc, Qn, Qi, Qw, Qns, ↓reduceIte, Nat.reduceLT, Nat.reduceEqDiff, aBin, Qnl, Qnm, Qnn, Qnq, Qno, Xe, QnR, Qnt, a1, a2]) | (with_reducible (first | refine Qh fun K hK => ?_ | refine Qq ?_ | refine Ql ?_ | refine Qy ?_ | refine QF ?_)) | ((with_reducible refine hK _ ?_); clear hK) | (refine Qk rfl ?_; simp only [↓reduceIte]))
    simp only [QI, Qm, Qu, upd, ↓reduceIte, Qnr, Qnv]; first | refine Qf (htake _ _) (.keep (.v _)) ⟨by rw [e0], rfl⟩ | refine Qf List.take_length (.keep (.v _)) ⟨by rw [e0], rfl⟩
  · -- 122 < c
    have e0 : ofN c = 0 := by simp only [ofN]; repeat' (first | rw [if_pos (by omega)] | rw [if_neg (by omega)])
    have a1 : 97 ≤ c := by omega
    have a2 : ¬ c ≤ 122 := by omega
    have a3 : 65 ≤ c := by omega
    have a4 : ¬ c ≤ 90 := by omega
    have a5 : 48 ≤ c := by omega
    have a6 : ¬ c ≤ 57 := by omega
    have a7 : (c == 95) = false := by simp; omega
    refine Qe Tryz.func126 rfl Tryz.call126 Tryz.ntmps126 (congrArg Array.toList Tryz.results126) (by simp) ?_
    repeat (first | ((first | (with_reducible (first | refine Qa fun K E hK hE => ?_ | refine Qs fun K E hK hE => ?_))); simp -implicitDefEqProofs only [Qd, Qb, Qg, OpW, aop, undef, AS.ev, Qc, Qn, Qi, Qw, Qns, ↓reduceIte, Nat.reduceLT, Nat.reduceEqDiff, aBin, Qnl, Qnm, Qnn, Qnq, Qno, QS, Xe, QnR, QnS, Qnt, a1, a2, a3, a4, a5, a6, a7]) | (with_reducible (first | refine Qh fun K hK => ?_ | refine Qq ?_ | refine Ql ?_ | refine QA ?_ | refine Qj ?_ | refine QD ?_)) | ((with_reducible refine hK _ ?_); clear hK) | (refine Qk rfl ?_; simp only [↓reduceIte, Qnp]))
    simp only [QI, Qm, Qu, upd, ↓reduceIte, Qnr, Qnv]; first | refine Qf (htake _ _) (.keep (.v _)) ⟨by rw [e0], rfl⟩ | refine Qf List.take_length (.keep (.v _)) ⟨by rw [e0], rfl⟩
theorem QbX (c : Int) : Pure Tryz.prog 106 [.v (.int .u8 c)] (.b (decide (97 ≤ c ∧ c ≤ 122))) := by
  intro h
  by_cases a1 : c ≥ 97
  · by_cases a2 : c ≤ 122
    · refine Qe Tryz.func106 rfl Tryz.call106 Tryz.ntmps106 (congrArg Array.toList Tryz.results106) (by simp) ?_
      repeat (first | (((with_reducible refine Qa fun K E hK hE => ?_)); simp -implicitDefEqProofs only [Qd, Qb, Qg, OpW, aop, undef, AS.ev, Qc, Qn, Qr, Qi, Qw, Qns, ↓reduceIte, Nat.reduceLT, Nat.reduceEqDiff, aBin, Qnl, Qnm, Qnn, Qnq, Qno, Xe, XD, QnR, Qnt, a1, a2]) | (with_reducible refine Ql ?_) | ((with_reducible refine hK _ ?_); clear hK))
      simp only [QI, Qm, Qu, upd, ↓reduceIte, Qnr, Qnv]; first | refine Qf (htake _ _) (.keep (.v _)) ⟨by rw [decide_eq_true ⟨a1, a2⟩], rfl⟩ | refine Qf List.take_length (.keep (.v _)) ⟨by rw [decide_eq_true ⟨a1, a2⟩], rfl⟩
    · refine Qe Tryz.func106 rfl Tryz.call106 Tryz.ntmps106 (congrArg Array.toList Tryz.results106) (by simp) ?_
      repeat (first | (((with_reducible refine Qa fun K E hK hE => ?_)); simp -implicitDefEqProofs only [Qd, Qb, Qg, OpW, aop, undef, AS.ev, Qc, Qn, Qr, Qi, Qw, Qns, ↓reduceIte, Nat.reduceLT, Nat.reduceEqDiff, aBin, Qnl, Qnm, Qnn, Qnq, Qno, Xe, XD, QnR, QnS, Qnt, a1, a2]) | (with_reducible refine Ql ?_) | ((with_reducible refine hK _ ?_); clear hK))
      simp only [QI, Qm, Qu, upd, ↓reduceIte, Qnr, Qnv]; first | refine Qf (htake _ _) (.keep (.v _)) ⟨by rw [decide_eq_false (fun h => a2 h.2)], rfl⟩ | refine Qf List.take_length (.keep (.v _)) ⟨by rw [decide_eq_false (fun h => a2 h.2)], rfl⟩
  · refine Qe Tryz.func106 rfl Tryz.call106 Tryz.ntmps106 (congrArg Array.toList Tryz.results106) (by simp) ?_
    repeat (first | (((with_reducible refine Qa fun K E hK hE => ?_)); simp -implicitDefEqProofs only [Qd, Qb, Qg, OpW, aop, undef, AS.ev, Qc, Qn, Qr, Qi, Qw, Qns, ↓reduceIte, Nat.reduceLT, Nat.reduceEqDiff, aBin, Qnl, Qnm, Qnn, Qnq, Qno, XD, QnS, Qnp, beq_true, a1]) | (with_reducible refine Ql ?_) | ((with_reducible refine hK _ ?_); clear hK))
    simp only [QI, Qm, Qu, upd, ↓reduceIte, Qnr, Qnv]; first | refine Qf (htake _ _) (.keep (.v _)) ⟨by rw [decide_eq_false (fun h => a1 h.1)], rfl⟩ | refine Qf List.take_length (.keep (.v _)) ⟨by rw [decide_eq_false (fun h => a1 h.1)], rfl⟩
theorem Qfq (c : Int) : Pure Tryz.prog 123 [.v (.int .u8 c)] (.b (decide (65 ≤ c ∧ c ≤ 90))) := by
  intro h
  by_cases a1 : c ≥ 65
  · by_cases a2 : c ≤ 90
    · refine Qe Tryz.func123 rfl Tryz.call123 Tryz.ntmps123 (congrArg Array.toList Tryz.results123) (by simp) ?_
      repeat (first | (((with_reducible refine Qa fun K E hK hE => ?_)); simp -implicitDefEqProofs only [Qd, Qb, Qg, OpW, aop, undef, AS.ev, Qc, Qn, Qr, Qi, Qw, Qns, ↓reduceIte, Nat.reduceLT, Nat.reduceEqDiff, aBin, Qnl, Qnm, Qnn, Qnq, Qno, Xe, XD, QnR, Qnt, a1, a2]) | (with_reducible refine Ql ?_) | ((with_reducible refine hK _ ?_); clear hK))
      simp only [QI, Qm, Qu, upd, ↓reduceIte, Qnr, Qnv]; first | refine Qf (htake _ _) (.keep (.v _)) ⟨by rw [decide_eq_true ⟨a1, a2⟩], rfl⟩ | refine Qf List.take_length (.keep (.v _)) ⟨by rw [decide_eq_true ⟨a1, a2⟩], rfl⟩
    · refine Qe Tryz.func123 rfl Tryz.call123 Tryz.ntmps123 (congrArg Array.toList Tryz.results123) (by simp) ?_
      repeat (first | (((with_reducible refine Qa fun K E hK hE => ?_)); simp -implicitDefEqProofs only [Qd, Qb, Qg, OpW, aop, undef, AS.ev, Qc, Qn, Qr, Qi, Qw, Qns, ↓reduceIte, Nat.reduceLT, Nat.reduceEqDiff, aBin, Qnl, Qnm, Qnn, Qnq, Qno, Xe, XD, QnR, QnS, Qnt, a1, a2]) | (with_reducible refine Ql ?_) | ((with_reducible refine hK _ ?_); clear hK))
      simp only [QI, Qm, Qu, upd, ↓reduceIte, Qnr, Qnv]; first | refine Qf (htake _ _) (.keep (.v _)) ⟨by rw [decide_eq_false (fun h => a2 h.2)], rfl⟩ | refine Qf List.take_length (.keep (.v _)) ⟨by rw [decide_eq_false (fun h => a2 h.2)], rfl⟩
  · refine Qe Tryz.func123 rfl Tryz.call123 Tryz.ntmps123 (congrArg Array.toList Tryz.results123) (by simp) ?_
    repeat (first | (((with_reducible refine Qa fun K E hK hE => ?_)); simp -implicitDefEqProofs only [Qd, Qb, Qg, OpW, aop, undef, AS.ev, Qc, Qn, Qr, Qi, Qw, Qns, ↓reduceIte, Nat.reduceLT, Nat.reduceEqDiff, aBin, Qnl, Qnm, Qnn, Qnq, Qno, XD, QnS, Qnp, beq_true, a1]) | (with_reducible refine Ql ?_) | ((with_reducible refine hK _ ?_); clear hK))
    simp only [QI, Qm, Qu, upd, ↓reduceIte, Qnr, Qnv]; first | refine Qf (htake _ _) (.keep (.v _)) ⟨by rw [decide_eq_false (fun h => a1 h.1)], rfl⟩ | refine Qf List.take_length (.keep (.v _)) ⟨by rw [decide_eq_false (fun h => a1 h.1)], rfl⟩
def resB (s : ByteArray) : Bool := (s.toList == ({ data := #[99, 111, 110, 115, 116, 114, 97, 105, 110, 116] } : ByteArray).toList) || (s.toList == ({ data := #[116, 114, 117, 101] } : ByteArray).toList) || (s.toList == ({ data := #[102, 97, 105, 108] } : ByteArray).toList) || (s.toList == ({ data := #[105, 115] } : ByteArray).toList) || (s.toList == ({ data := #[105, 110, 116] } : ByteArray).toList) || (s.toList == ({ data := #[103, 114, 111, 117, 110, 100] } : ByteArray).toList)
theorem Qfz (s : ByteArray) : Pure Tryz.prog 114 [.v (.string s)] (.b (resB s)) := by
  intro h
  cases d0 : (s.toList == ({ data := #[99, 111, 110, 115, 116, 114, 97, 105, 110, 116] } : ByteArray).toList) with
  | true =>
    refine Qe Tryz.func114 rfl Tryz.call114 Tryz.ntmps114 (congrArg Array.toList Tryz.results114) (by simp) ?_
    repeat (first | (((with_reducible refine Qa fun K E hK hE => ?_)); simp -implicitDefEqProofs only [Qd, Qb, Qg, OpW, aop, undef, AS.ev, Qc, Qr, QG, Qi, Qw, Qns, ↓reduceIte, Nat.reduceLT, Nat.reduceEqDiff, aBin, Qnn, QY, d0]) | (with_reducible (first | refine Qh fun K hK => ?_ | refine Qq ?_ | refine Ql ?_ | refine QA ?_ | refine Qj ?_ | refine Qy ?_ | refine QF ?_)) | ((with_reducible refine hK _ ?_); clear hK) | (refine Qk rfl ?_; simp only [↓reduceIte]))
    simp only [QI, Qm, Qu, upd, ↓reduceIte, Qnr, Qnv]; first | refine Qf (htake _ _) (.keep (.v _)) ⟨by simp only [resB, d0, Bool.true_or], rfl⟩ | refine Qf List.take_length (.keep (.v _)) ⟨by simp only [resB, d0, Bool.true_or], rfl⟩
  | false =>
    cases d1 : (s.toList == ({ data := #[116, 114, 117, 101] } : ByteArray).toList) with
    | true =>
      refine Qe Tryz.func114 rfl Tryz.call114 Tryz.ntmps114 (congrArg Array.toList Tryz.results114) (by simp) ?_
      repeat (first | (((with_reducible refine Qa fun K E hK hE => ?_)); simp -implicitDefEqProofs only [Qd, Qb, Qg, OpW, aop, undef, AS.ev, Qc, Qr, QG, Qi, Qw, Qns, ↓reduceIte, Nat.reduceLT, Nat.reduceEqDiff, aBin, Qnn, QY, d0, d1]) | (with_reducible (first | refine Qh fun K hK => ?_ | refine Qq ?_ | refine Ql ?_ | refine QA ?_ | refine Qj ?_ | refine Qy ?_ | refine QF ?_)) | ((with_reducible refine hK _ ?_); clear hK) | (refine Qk rfl ?_; simp only [↓reduceIte, Qnp]))
      simp only [QI, Qm, Qu, upd, ↓reduceIte, Qnr, Qnv]; first | refine Qf (htake _ _) (.keep (.v _)) ⟨by simp only [resB, d0, d1, Bool.or_true, Bool.true_or], rfl⟩ | refine Qf List.take_length (.keep (.v _)) ⟨by simp only [resB, d0, d1, Bool.or_true, Bool.true_or], rfl⟩
    | false =>
      cases d2 : (s.toList == ({ data := #[102, 97, 105, 108] } : ByteArray).toList) with
      | true =>
        refine Qe Tryz.func114 rfl Tryz.call114 Tryz.ntmps114 (congrArg Array.toList Tryz.results114) (by simp) ?_
        repeat (first | (((with_reducible refine Qa fun K E hK hE => ?_)); simp -implicitDefEqProofs only [Qd, Qb, Qg, OpW, aop, undef, AS.ev, Qc, Qr, QG, Qi, Qw, Qns, ↓reduceIte, Nat.reduceLT, Nat.reduceEqDiff, aBin, Qnn, QY, d0, d1, d2]) | (with_reducible (first | refine Qh fun K hK => ?_ | refine Qq ?_ | refine Ql ?_ | refine QA ?_ | refine Qj ?_ | refine Qy ?_ | refine QF ?_)) | ((with_reducible refine hK _ ?_); clear hK) | (refine Qk rfl ?_; simp only [↓reduceIte, Qnp]))
        simp only [QI, Qm, Qu, upd, ↓reduceIte, Qnr, Qnv]; first | refine Qf (htake _ _) (.keep (.v _)) ⟨by simp only [resB, d0, d1, d2, Bool.or_false, Bool.or_true, Bool.true_or], rfl⟩ | refine Qf List.take_length (.keep (.v _)) ⟨by simp only [resB, d0, d1, d2, Bool.or_false, Bool.or_true, Bool.true_or], rfl⟩
      | false =>
        cases d3 : (s.toList == ({ data := #[105, 115] } : ByteArray).toList) with
        | true =>
          refine Qe Tryz.func114 rfl Tryz.call114 Tryz.ntmps114 (congrArg Array.toList Tryz.results114) (by simp) ?_
          repeat (first | (((with_reducible refine Qa fun K E hK hE => ?_)); simp -implicitDefEqProofs only [Qd, Qb, Qg, OpW, aop, undef, AS.ev, Qc, Qr, QG, Qi, Qw, Qns, ↓reduceIte, Nat.reduceLT, Nat.reduceEqDiff, aBin, Qnn, QY, d0, d1, d2, d3]) | (with_reducible (first | refine Qh fun K hK => ?_ | refine Qq ?_ | refine Ql ?_ | refine QA ?_ | refine Qj ?_ | refine Qy ?_ | refine QF ?_)) | ((with_reducible refine hK _ ?_); clear hK) | (refine Qk rfl ?_; simp only [↓reduceIte, Qnp]))
          simp only [QI, Qm, Qu, upd, ↓reduceIte, Qnr, Qnv]; first | refine Qf (htake _ _) (.keep (.v _)) ⟨by simp only [resB, d0, d1, d2, d3, Bool.or_false, Bool.or_true, Bool.true_or], rfl⟩ | refine Qf List.take_length (.keep (.v _)) ⟨by simp only [resB, d0, d1, d2, d3, Bool.or_false, Bool.or_true, Bool.true_or], rfl⟩
        | false =>
          cases d4 : (s.toList == ({ data := #[105, 110, 116] } : ByteArray).toList) with
          | true =>
            refine Qe Tryz.func114 rfl Tryz.call114 Tryz.ntmps114 (congrArg Array.toList Tryz.results114) (by simp) ?_
            repeat (first | (((with_reducible refine Qa fun K E hK hE => ?_)); simp -implicitDefEqProofs only [Qd, Qb, Qg, OpW, aop, undef, AS.ev, Qc, Qr, QG, Qi, Qw, Qns, ↓reduceIte, Nat.reduceLT, Nat.reduceEqDiff, aBin, Qnn, QY, d0, d1, d2, d3, d4]) | (with_reducible (first | refine Qh fun K hK => ?_ | refine Qq ?_ | refine Ql ?_ | refine QA ?_ | refine Qj ?_ | refine Qy ?_ | refine QF ?_)) | ((with_reducible refine hK _ ?_); clear hK) | (refine Qk rfl ?_; simp only [↓reduceIte, Qnp]))
            simp only [QI, Qm, Qu, upd, ↓reduceIte, Qnr, Qnv]; first | refine Qf (htake _ _) (.keep (.v _)) ⟨by simp only [resB, d0, d1, d2, d3, d4, Bool.or_false, Bool.or_true, Bool.true_or], rfl⟩ | refine Qf List.take_length (.keep (.v _)) ⟨by simp only [resB, d0, d1, d2, d3, d4, Bool.or_false, Bool.or_true, Bool.true_or], rfl⟩
          | false =>
            cases d5 : (s.toList == ({ data := #[103, 114, 111, 117, 110, 100] } : ByteArray).toList) with
            | true =>
              refine Qe Tryz.func114 rfl Tryz.call114 Tryz.ntmps114 (congrArg Array.toList Tryz.results114) (by simp) ?_
              repeat (first | ((first | (with_reducible (first | refine Qa fun K E hK hE => ?_ | refine Qs fun K E hK hE => ?_))); simp -implicitDefEqProofs only [Qd, Qb, Qg, OpW, aop, undef, AS.ev, Qc, Qr, QG, Qi, Qw, Qns, ↓reduceIte, Nat.reduceLT, Nat.reduceEqDiff, aBin, Qnn, QY, d0, d1, d2, d3, d4, d5]) | (with_reducible (first | refine Qh fun K hK => ?_ | refine Qq ?_ | refine Ql ?_ | refine Qj ?_ | refine Qy ?_ | refine QF ?_)) | ((with_reducible refine hK _ ?_); clear hK) | (refine Qk rfl ?_; simp only [↓reduceIte, Qnp]))
              simp only [QI, Qm, Qu, upd, ↓reduceIte, Qnr, Qnv]; first | refine Qf (htake _ _) (.keep (.v _)) ⟨by simp only [resB, d0, d1, d2, d3, d4, d5, Bool.or_false, Bool.or_true], rfl⟩ | refine Qf List.take_length (.keep (.v _)) ⟨by simp only [resB, d0, d1, d2, d3, d4, d5, Bool.or_false, Bool.or_true], rfl⟩
            | false =>
              refine Qe Tryz.func114 rfl Tryz.call114 Tryz.ntmps114 (congrArg Array.toList Tryz.results114) (by simp) ?_
              repeat (first | ((first | (with_reducible (first | refine Qa fun K E hK hE => ?_ | refine Qs fun K E hK hE => ?_))); simp -implicitDefEqProofs only [Qd, Qb, Qg, OpW, aop, undef, AS.ev, Qc, Qr, QG, Qi, Qw, Qns, ↓reduceIte, Nat.reduceLT, Nat.reduceEqDiff, aBin, Qnn, QY, d0, d1, d2, d3, d4, d5]) | (with_reducible (first | refine Qh fun K hK => ?_ | refine Qq ?_ | refine Ql ?_ | refine QA ?_ | refine Qj ?_ | refine QD ?_)) | ((with_reducible refine hK _ ?_); clear hK) | (refine Qk rfl ?_; simp only [↓reduceIte, Qnp]))
              simp only [QI, Qm, Qu, upd, ↓reduceIte, Qnr, Qnv]; first | refine Qf (htake _ _) (.keep (.v _)) ⟨by simp only [resB, d0, d1, d2, d3, d4, d5, Bool.or_false], rfl⟩ | refine Qf List.take_length (.keep (.v _)) ⟨by simp only [resB, d0, d1, d2, d3, d4, d5, Bool.or_false], rfl⟩
theorem Qdt (s : ByteArray) : Pure Tryz.prog 107 [.v (.string s)] (.b (resB s)) := by
  intro h
  cases d0 : (s.toList == ({ data := #[99, 111, 110, 115, 116, 114, 97, 105, 110, 116] } : ByteArray).toList) with
  | true =>
    refine Qe Tryz.func107 rfl Tryz.call107 Tryz.ntmps107 (congrArg Array.toList Tryz.results107) (by simp) ?_
    iterate 3 (try (first | (((with_reducible refine Qa fun K E hK hE => ?_)); simp -implicitDefEqProofs only [Qd, Qb, Qg, OpW, aop, AS.ev, Qc, Qr, Nat.reduceLT]) | (with_reducible refine Qh fun K hK => ?_) | ((with_reducible refine hK _ ?_); clear hK)))
    (with_reducible refine Qs fun K E hK hE => ?_)
    (try simp only [QnW]); refine Qz 4 (fun K1 hK1 => ?_); simp -implicitDefEqProofs only [Qd, Qb, Qg, OpW, aop, undef, AS.ev, Qc, QG, Qi, Qw, Qns, QnI, ↓reduceIte, Nat.reduceLT, Nat.reduceEqDiff, aBin, Qnl, Qnm, Qnn, Qnq, Qno, Qnw, QnD, QY, beq_false, d0]; refine hK1 _ ?_; clear hK1
    (try simp only [Qnu, QnC]); refine Qz 4 (fun K1 hK1 => ?_); simp -implicitDefEqProofs only [Qd, Qb, Qg, OpW, aop, undef, AS.ev, Qc, Qr, Qi, QnI, ↓reduceIte, Nat.reduceLT, Nat.reduceEqDiff, Qnl, Qnm, Qnq, Qno, Qnw, QnD, beq_false]; refine hK1 _ ?_; clear hK1
    (try simp only [Qnu, QnC]); refine Qz 4 (fun K1 hK1 => ?_); simp -implicitDefEqProofs only [Qd, Qb, Qg, OpW, aop, undef, AS.ev, Qc, Qr, Qi, QnI, ↓reduceIte, Nat.reduceLT, Nat.reduceEqDiff, Qnl, Qnm, Qnq, Qno, Qnw, QnD, beq_false]; refine hK1 _ ?_; clear hK1
    (try simp only [Qnu, QnC]); refine Qz 4 (fun K1 hK1 => ?_); simp -implicitDefEqProofs only [Qd, Qb, Qg, OpW, aop, undef, AS.ev, Qc, Qr, Qi, QnI, ↓reduceIte, Nat.reduceLT, Nat.reduceEqDiff, Qnl, Qnm, Qnq, Qno, Qnw, QnD, beq_false]; refine hK1 _ ?_; clear hK1
    (try simp only [Qnu, QnC]); refine Qz 4 (fun K1 hK1 => ?_); simp -implicitDefEqProofs only [Qd, Qb, Qg, OpW, aop, undef, AS.ev, Qc, Qr, Qi, QnI, ↓reduceIte, Nat.reduceLT, Nat.reduceEqDiff, Qnl, Qnm, Qnq, Qno, Qnw, QnD, beq_false]; refine hK1 _ ?_; clear hK1
    (try simp only [Qnu, QnC])
    simp -implicitDefEqProofs only [Qd, Qb, Qg, OpW, aop, undef, AS.ev, Qc, Qr, Qi, QnI, ↓reduceIte, Nat.reduceLT, Nat.reduceEqDiff, Qnl, Qnm, Qnq, Qno, beq_false]
    repeat (first | (with_reducible (first | refine Ql ?_ | refine Qj ?_)) | ((with_reducible refine hK _ ?_); clear hK))
    simp only [QI, Qm, Qu, upd, ↓reduceIte, Qnr, Qnv]; first | refine Qf (htake _ _) (.keep (.v _)) ⟨by simp only [resB, d0, Bool.true_or], rfl⟩ | refine Qf List.take_length (.keep (.v _)) ⟨by simp only [resB, d0, Bool.true_or], rfl⟩
  | false =>
    cases d1 : (s.toList == ({ data := #[116, 114, 117, 101] } : ByteArray).toList) with
    | true =>
      refine Qe Tryz.func107 rfl Tryz.call107 Tryz.ntmps107 (congrArg Array.toList Tryz.results107) (by simp) ?_
      iterate 3 (try (first | (((with_reducible refine Qa fun K E hK hE => ?_)); simp -implicitDefEqProofs only [Qd, Qb, Qg, OpW, aop, AS.ev, Qc, Qr, Nat.reduceLT]) | (with_reducible refine Qh fun K hK => ?_) | ((with_reducible refine hK _ ?_); clear hK)))
      (with_reducible refine Qs fun K E hK hE => ?_)
      (try simp only [QnW]); refine Qz 4 (fun K1 hK1 => ?_); simp -implicitDefEqProofs only [Qd, Qb, Qg, OpW, aop, undef, AS.ev, Qc, QG, Qi, Qw, Qns, ↓reduceIte, Nat.reduceLT, Nat.reduceEqDiff, aBin, Qnl, Qnm, Qnn, Qnq, Qno, Qnw, QnD, QY, Qnt, d0]; refine hK1 _ ?_; clear hK1
      (try simp only [Qnu, QnC]); refine Qz 4 (fun K1 hK1 => ?_); simp -implicitDefEqProofs only [Qd, Qb, Qg, OpW, aop, undef, AS.ev, Qc, QG, Qi, QnI, ↓reduceIte, Nat.reduceLT, Nat.reduceEqDiff, aBin, Qnl, Qnm, Qnn, Qnq, Qno, Qnw, QnD, QY, Qnt, Qnp, beq_false, d1]; refine hK1 _ ?_; clear hK1
      (try simp only [Qnu, QnC]); refine Qz 4 (fun K1 hK1 => ?_); simp -implicitDefEqProofs only [Qd, Qb, Qg, OpW, aop, undef, AS.ev, Qc, Qr, Qi, QnI, ↓reduceIte, Nat.reduceLT, Nat.reduceEqDiff, Qnl, Qnm, Qnq, Qno, Qnw, QnD, beq_false]; refine hK1 _ ?_; clear hK1
      (try simp only [Qnu, QnC]); refine Qz 4 (fun K1 hK1 => ?_); simp -implicitDefEqProofs only [Qd, Qb, Qg, OpW, aop, undef, AS.ev, Qc, Qr, Qi, QnI, ↓reduceIte, Nat.reduceLT, Nat.reduceEqDiff, Qnl, Qnm, Qnq, Qno, Qnw, QnD, beq_false]; refine hK1 _ ?_; clear hK1
      (try simp only [Qnu, QnC]); refine Qz 4 (fun K1 hK1 => ?_); simp -implicitDefEqProofs only [Qd, Qb, Qg, OpW, aop, undef, AS.ev, Qc, Qr, Qi, QnI, ↓reduceIte, Nat.reduceLT, Nat.reduceEqDiff, Qnl, Qnm, Qnq, Qno, Qnw, QnD, beq_false]; refine hK1 _ ?_; clear hK1
      (try simp only [Qnu, QnC])
      simp -implicitDefEqProofs only [Qd, Qb, Qg, OpW, aop, undef, AS.ev, Qc, Qr, Qi, QnI, ↓reduceIte, Nat.reduceLT, Nat.reduceEqDiff, Qnl, Qnm, Qnq, Qno, beq_false]
      repeat (first | (with_reducible (first | refine Ql ?_ | refine Qj ?_)) | ((with_reducible refine hK _ ?_); clear hK))
      simp only [QI, Qm, Qu, upd, ↓reduceIte, Qnr, Qnv]; first | refine Qf (htake _ _) (.keep (.v _)) ⟨by simp only [resB, d0, d1, Bool.or_true, Bool.true_or], rfl⟩ | refine Qf List.take_length (.keep (.v _)) ⟨by simp only [resB, d0, d1, Bool.or_true, Bool.true_or], rfl⟩
    | false =>
      cases d2 : (s.toList == ({ data := #[102, 97, 105, 108] } : ByteArray).toList) with
      | true =>
        refine Qe Tryz.func107 rfl Tryz.call107 Tryz.ntmps107 (congrArg Array.toList Tryz.results107) (by simp) ?_
        iterate 3 (try (first | (((with_reducible refine Qa fun K E hK hE => ?_)); simp -implicitDefEqProofs only [Qd, Qb, Qg, OpW, aop, AS.ev, Qc, Qr, Nat.reduceLT]) | (with_reducible refine Qh fun K hK => ?_) | ((with_reducible refine hK _ ?_); clear hK)))
        (with_reducible refine Qs fun K E hK hE => ?_)
        (try simp only [QnW]); refine Qz 4 (fun K1 hK1 => ?_); simp -implicitDefEqProofs only [Qd, Qb, Qg, OpW, aop, undef, AS.ev, Qc, QG, Qi, Qw, Qns, ↓reduceIte, Nat.reduceLT, Nat.reduceEqDiff, aBin, Qnl, Qnm, Qnn, Qnq, Qno, Qnw, QnD, QY, Qnt, d0]; refine hK1 _ ?_; clear hK1
        (try simp only [Qnu, QnC]); refine Qz 4 (fun K1 hK1 => ?_); simp -implicitDefEqProofs only [Qd, Qb, Qg, OpW, aop, undef, AS.ev, Qc, QG, Qi, Qw, Qns, ↓reduceIte, Nat.reduceLT, Nat.reduceEqDiff, aBin, Qnl, Qnm, Qnn, Qnq, Qno, Qnw, QnD, QY, Qnt, Qnp, d1]; refine hK1 _ ?_; clear hK1
        (try simp only [Qnu, QnC]); refine Qz 4 (fun K1 hK1 => ?_); simp -implicitDefEqProofs only [Qd, Qb, Qg, OpW, aop, undef, AS.ev, Qc, QG, Qi, QnI, ↓reduceIte, Nat.reduceLT, Nat.reduceEqDiff, aBin, Qnl, Qnm, Qnn, Qnq, Qno, Qnw, QnD, QY, Qnt, Qnp, beq_false, d2]; refine hK1 _ ?_; clear hK1
        (try simp only [Qnu, QnC]); refine Qz 4 (fun K1 hK1 => ?_); simp -implicitDefEqProofs only [Qd, Qb, Qg, OpW, aop, undef, AS.ev, Qc, Qr, Qi, QnI, ↓reduceIte, Nat.reduceLT, Nat.reduceEqDiff, Qnl, Qnm, Qnq, Qno, Qnw, QnD, beq_false]; refine hK1 _ ?_; clear hK1
        (try simp only [Qnu, QnC]); refine Qz 4 (fun K1 hK1 => ?_); simp -implicitDefEqProofs only [Qd, Qb, Qg, OpW, aop, undef, AS.ev, Qc, Qr, Qi, QnI, ↓reduceIte, Nat.reduceLT, Nat.reduceEqDiff, Qnl, Qnm, Qnq, Qno, Qnw, QnD, beq_false]; refine hK1 _ ?_; clear hK1
        (try simp only [Qnu, QnC])
        simp -implicitDefEqProofs only [Qd, Qb, Qg, OpW, aop, undef, AS.ev, Qc, Qr, Qi, QnI, ↓reduceIte, Nat.reduceLT, Nat.reduceEqDiff, Qnl, Qnm, Qnq, Qno, beq_false]
        repeat (first | (with_reducible (first | refine Ql ?_ | refine Qj ?_)) | ((with_reducible refine hK _ ?_); clear hK))
        simp only [QI, Qm, Qu, upd, ↓reduceIte, Qnr, Qnv]; first | refine Qf (htake _ _) (.keep (.v _)) ⟨by simp only [resB, d0, d1, d2, Bool.or_false, Bool.or_true, Bool.true_or], rfl⟩ | refine Qf List.take_length (.keep (.v _)) ⟨by simp only [resB, d0, d1, d2, Bool.or_false, Bool.or_true, Bool.true_or], rfl⟩
      | false =>
        cases d3 : (s.toList == ({ data := #[105, 115] } : ByteArray).toList) with
        | true =>
          refine Qe Tryz.func107 rfl Tryz.call107 Tryz.ntmps107 (congrArg Array.toList Tryz.results107) (by simp) ?_
          iterate 3 (try (first | (((with_reducible refine Qa fun K E hK hE => ?_)); simp -implicitDefEqProofs only [Qd, Qb, Qg, OpW, aop, AS.ev, Qc, Qr, Nat.reduceLT]) | (with_reducible refine Qh fun K hK => ?_) | ((with_reducible refine hK _ ?_); clear hK)))
          (with_reducible refine Qs fun K E hK hE => ?_)
          (try simp only [QnW]); refine Qz 4 (fun K1 hK1 => ?_); simp -implicitDefEqProofs only [Qd, Qb, Qg, OpW, aop, undef, AS.ev, Qc, QG, Qi, Qw, Qns, ↓reduceIte, Nat.reduceLT, Nat.reduceEqDiff, aBin, Qnl, Qnm, Qnn, Qnq, Qno, Qnw, QnD, QY, Qnt, d0]; refine hK1 _ ?_; clear hK1
          (try simp only [Qnu, QnC]); refine Qz 4 (fun K1 hK1 => ?_); simp -implicitDefEqProofs only [Qd, Qb, Qg, OpW, aop, undef, AS.ev, Qc, QG, Qi, Qw, Qns, ↓reduceIte, Nat.reduceLT, Nat.reduceEqDiff, aBin, Qnl, Qnm, Qnn, Qnq, Qno, Qnw, QnD, QY, Qnt, Qnp, d1]; refine hK1 _ ?_; clear hK1
          (try simp only [Qnu, QnC]); refine Qz 4 (fun K1 hK1 => ?_); simp -implicitDefEqProofs only [Qd, Qb, Qg, OpW, aop, undef, AS.ev, Qc, QG, Qi, Qw, Qns, ↓reduceIte, Nat.reduceLT, Nat.reduceEqDiff, aBin, Qnl, Qnm, Qnn, Qnq, Qno, Qnw, QnD, QY, Qnt, Qnp, d2]; refine hK1 _ ?_; clear hK1
          (try simp only [Qnu, QnC]); refine Qz 4 (fun K1 hK1 => ?_); simp -implicitDefEqProofs only [Qd, Qb, Qg, OpW, aop, undef, AS.ev, Qc, QG, Qi, QnI, ↓reduceIte, Nat.reduceLT, Nat.reduceEqDiff, aBin, Qnl, Qnm, Qnn, Qnq, Qno, Qnw, QnD, QY, Qnt, Qnp, beq_false, d3]; refine hK1 _ ?_; clear hK1
          (try simp only [Qnu, QnC]); refine Qz 4 (fun K1 hK1 => ?_); simp -implicitDefEqProofs only [Qd, Qb, Qg, OpW, aop, undef, AS.ev, Qc, Qr, Qi, QnI, ↓reduceIte, Nat.reduceLT, Nat.reduceEqDiff, Qnl, Qnm, Qnq, Qno, Qnw, QnD, beq_false]; refine hK1 _ ?_; clear hK1
          (try simp only [Qnu, QnC])
          simp -implicitDefEqProofs only [Qd, Qb, Qg, OpW, aop, undef, AS.ev, Qc, Qr, Qi, QnI, ↓reduceIte, Nat.reduceLT, Nat.reduceEqDiff, Qnl, Qnm, Qnq, Qno, beq_false]
          repeat (first | (with_reducible (first | refine Ql ?_ | refine Qj ?_)) | ((with_reducible refine hK _ ?_); clear hK))
          simp only [QI, Qm, Qu, upd, ↓reduceIte, Qnr, Qnv]; first | refine Qf (htake _ _) (.keep (.v _)) ⟨by simp only [resB, d0, d1, d2, d3, Bool.or_false, Bool.or_true, Bool.true_or], rfl⟩ | refine Qf List.take_length (.keep (.v _)) ⟨by simp only [resB, d0, d1, d2, d3, Bool.or_false, Bool.or_true, Bool.true_or], rfl⟩
        | false =>
          cases d4 : (s.toList == ({ data := #[105, 110, 116] } : ByteArray).toList) with
          | true =>
            refine Qe Tryz.func107 rfl Tryz.call107 Tryz.ntmps107 (congrArg Array.toList Tryz.results107) (by simp) ?_
            iterate 3 (try (first | (((with_reducible refine Qa fun K E hK hE => ?_)); simp -implicitDefEqProofs only [Qd, Qb, Qg, OpW, aop, AS.ev, Qc, Qr, Nat.reduceLT]) | (with_reducible refine Qh fun K hK => ?_) | ((with_reducible refine hK _ ?_); clear hK)))
            (with_reducible refine Qs fun K E hK hE => ?_)
            (try simp only [QnW]); refine Qz 4 (fun K1 hK1 => ?_); simp -implicitDefEqProofs only [Qd, Qb, Qg, OpW, aop, undef, AS.ev, Qc, QG, Qi, Qw, Qns, ↓reduceIte, Nat.reduceLT, Nat.reduceEqDiff, aBin, Qnl, Qnm, Qnn, Qnq, Qno, Qnw, QnD, QY, Qnt, d0]; refine hK1 _ ?_; clear hK1
            (try simp only [Qnu, QnC]); refine Qz 4 (fun K1 hK1 => ?_); simp -implicitDefEqProofs only [Qd, Qb, Qg, OpW, aop, undef, AS.ev, Qc, QG, Qi, Qw, Qns, ↓reduceIte, Nat.reduceLT, Nat.reduceEqDiff, aBin, Qnl, Qnm, Qnn, Qnq, Qno, Qnw, QnD, QY, Qnt, Qnp, d1]; refine hK1 _ ?_; clear hK1
            (try simp only [Qnu, QnC]); refine Qz 4 (fun K1 hK1 => ?_); simp -implicitDefEqProofs only [Qd, Qb, Qg, OpW, aop, undef, AS.ev, Qc, QG, Qi, Qw, Qns, ↓reduceIte, Nat.reduceLT, Nat.reduceEqDiff, aBin, Qnl, Qnm, Qnn, Qnq, Qno, Qnw, QnD, QY, Qnt, Qnp, d2]; refine hK1 _ ?_; clear hK1
            (try simp only [Qnu, QnC]); refine Qz 4 (fun K1 hK1 => ?_); simp -implicitDefEqProofs only [Qd, Qb, Qg, OpW, aop, undef, AS.ev, Qc, QG, Qi, Qw, Qns, ↓reduceIte, Nat.reduceLT, Nat.reduceEqDiff, aBin, Qnl, Qnm, Qnn, Qnq, Qno, Qnw, QnD, QY, Qnt, Qnp, d3]; refine hK1 _ ?_; clear hK1
            (try simp only [Qnu, QnC]); refine Qz 4 (fun K1 hK1 => ?_); simp -implicitDefEqProofs only [Qd, Qb, Qg, OpW, aop, undef, AS.ev, Qc, QG, Qi, QnI, ↓reduceIte, Nat.reduceLT, Nat.reduceEqDiff, aBin, Qnl, Qnm, Qnn, Qnq, Qno, Qnw, QnD, QY, Qnt, Qnp, beq_false, d4]; refine hK1 _ ?_; clear hK1
            (try simp only [Qnu, QnC])
            simp -implicitDefEqProofs only [Qd, Qb, Qg, OpW, aop, undef, AS.ev, Qc, Qr, Qi, QnI, ↓reduceIte, Nat.reduceLT, Nat.reduceEqDiff, Qnl, Qnm, Qnq, Qno, beq_false]
            repeat (first | (with_reducible (first | refine Ql ?_ | refine Qj ?_)) | ((with_reducible refine hK _ ?_); clear hK))
            simp only [QI, Qm, Qu, upd, ↓reduceIte, Qnr, Qnv]; first | refine Qf (htake _ _) (.keep (.v _)) ⟨by simp only [resB, d0, d1, d2, d3, d4, Bool.or_false, Bool.or_true, Bool.true_or], rfl⟩ | refine Qf List.take_length (.keep (.v _)) ⟨by simp only [resB, d0, d1, d2, d3, d4, Bool.or_false, Bool.or_true, Bool.true_or], rfl⟩
          | false =>
            cases d5 : (s.toList == ({ data := #[103, 114, 111, 117, 110, 100] } : ByteArray).toList) with
            | true =>
              refine Qe Tryz.func107 rfl Tryz.call107 Tryz.ntmps107 (congrArg Array.toList Tryz.results107) (by simp) ?_
              iterate 3 (try (first | (((with_reducible refine Qa fun K E hK hE => ?_)); simp -implicitDefEqProofs only [Qd, Qb, Qg, OpW, aop, AS.ev, Qc, Qr, Nat.reduceLT]) | (with_reducible refine Qh fun K hK => ?_) | ((with_reducible refine hK _ ?_); clear hK)))
              (with_reducible refine Qs fun K E hK hE => ?_)
              (try simp only [QnW]); refine Qz 4 (fun K1 hK1 => ?_); simp -implicitDefEqProofs only [Qd, Qb, Qg, OpW, aop, undef, AS.ev, Qc, QG, Qi, Qw, Qns, ↓reduceIte, Nat.reduceLT, Nat.reduceEqDiff, aBin, Qnl, Qnm, Qnn, Qnq, Qno, Qnw, QnD, QY, Qnt, d0]; refine hK1 _ ?_; clear hK1
              (try simp only [Qnu, QnC]); refine Qz 4 (fun K1 hK1 => ?_); simp -implicitDefEqProofs only [Qd, Qb, Qg, OpW, aop, undef, AS.ev, Qc, QG, Qi, Qw, Qns, ↓reduceIte, Nat.reduceLT, Nat.reduceEqDiff, aBin, Qnl, Qnm, Qnn, Qnq, Qno, Qnw, QnD, QY, Qnt, Qnp, d1]; refine hK1 _ ?_; clear hK1
              (try simp only [Qnu, QnC]); refine Qz 4 (fun K1 hK1 => ?_); simp -implicitDefEqProofs only [Qd, Qb, Qg, OpW, aop, undef, AS.ev, Qc, QG, Qi, Qw, Qns, ↓reduceIte, Nat.reduceLT, Nat.reduceEqDiff, aBin, Qnl, Qnm, Qnn, Qnq, Qno, Qnw, QnD, QY, Qnt, Qnp, d2]; refine hK1 _ ?_; clear hK1
              (try simp only [Qnu, QnC]); refine Qz 4 (fun K1 hK1 => ?_); simp -implicitDefEqProofs only [Qd, Qb, Qg, OpW, aop, undef, AS.ev, Qc, QG, Qi, Qw, Qns, ↓reduceIte, Nat.reduceLT, Nat.reduceEqDiff, aBin, Qnl, Qnm, Qnn, Qnq, Qno, Qnw, QnD, QY, Qnt, Qnp, d3]; refine hK1 _ ?_; clear hK1
              (try simp only [Qnu, QnC]); refine Qz 4 (fun K1 hK1 => ?_); simp -implicitDefEqProofs only [Qd, Qb, Qg, OpW, aop, undef, AS.ev, Qc, QG, Qi, Qw, Qns, ↓reduceIte, Nat.reduceLT, Nat.reduceEqDiff, aBin, Qnl, Qnm, Qnn, Qnq, Qno, Qnw, QnD, QY, Qnt, Qnp, d4]; refine hK1 _ ?_; clear hK1
              (try simp only [Qnu, QnC])
              simp -implicitDefEqProofs only [Qd, Qb, Qg, OpW, aop, AS.ev, Qc, QG, Qi, ↓reduceIte, Nat.reduceLT, Nat.reduceEqDiff, aBin, Qnl, Qnm, Qnn, Qnq, Qno, QY, Qnt, Qnp, d5]
              repeat (first | (with_reducible (first | refine Ql ?_ | refine Qj ?_)) | ((with_reducible refine hK _ ?_); clear hK))
              simp only [QI, Qm, Qu, upd, ↓reduceIte, Qnr, Qnv]; first | refine Qf (htake _ _) (.keep (.v _)) ⟨by simp only [resB, d0, d1, d2, d3, d4, d5, Bool.or_false, Bool.or_true], rfl⟩ | refine Qf List.take_length (.keep (.v _)) ⟨by simp only [resB, d0, d1, d2, d3, d4, d5, Bool.or_false, Bool.or_true], rfl⟩
            | false =>
              refine Qe Tryz.func107 rfl Tryz.call107 Tryz.ntmps107 (congrArg Array.toList Tryz.results107) (by simp) ?_
              iterate 3 (try (first | (((with_reducible refine Qa fun K E hK hE => ?_)); simp -implicitDefEqProofs only [Qd, Qb, Qg, OpW, aop, AS.ev, Qc, Qr, Nat.reduceLT]) | (with_reducible refine Qh fun K hK => ?_) | ((with_reducible refine hK _ ?_); clear hK)))
              (with_reducible refine Qs fun K E hK hE => ?_)
              (try simp only [QnW]); refine Qz 4 (fun K1 hK1 => ?_); simp -implicitDefEqProofs only [Qd, Qb, Qg, OpW, aop, undef, AS.ev, Qc, QG, Qi, Qw, Qns, ↓reduceIte, Nat.reduceLT, Nat.reduceEqDiff, aBin, Qnl, Qnm, Qnn, Qnq, Qno, Qnw, QnD, QY, Qnt, d0]; refine hK1 _ ?_; clear hK1
              (try simp only [Qnu, QnC]); refine Qz 4 (fun K1 hK1 => ?_); simp -implicitDefEqProofs only [Qd, Qb, Qg, OpW, aop, undef, AS.ev, Qc, QG, Qi, Qw, Qns, ↓reduceIte, Nat.reduceLT, Nat.reduceEqDiff, aBin, Qnl, Qnm, Qnn, Qnq, Qno, Qnw, QnD, QY, Qnt, Qnp, d1]; refine hK1 _ ?_; clear hK1
              (try simp only [Qnu, QnC]); refine Qz 4 (fun K1 hK1 => ?_); simp -implicitDefEqProofs only [Qd, Qb, Qg, OpW, aop, undef, AS.ev, Qc, QG, Qi, Qw, Qns, ↓reduceIte, Nat.reduceLT, Nat.reduceEqDiff, aBin, Qnl, Qnm, Qnn, Qnq, Qno, Qnw, QnD, QY, Qnt, Qnp, d2]; refine hK1 _ ?_; clear hK1
              (try simp only [Qnu, QnC]); refine Qz 4 (fun K1 hK1 => ?_); simp -implicitDefEqProofs only [Qd, Qb, Qg, OpW, aop, undef, AS.ev, Qc, QG, Qi, Qw, Qns, ↓reduceIte, Nat.reduceLT, Nat.reduceEqDiff, aBin, Qnl, Qnm, Qnn, Qnq, Qno, Qnw, QnD, QY, Qnt, Qnp, d3]; refine hK1 _ ?_; clear hK1
              (try simp only [Qnu, QnC]); refine Qz 4 (fun K1 hK1 => ?_); simp -implicitDefEqProofs only [Qd, Qb, Qg, OpW, aop, undef, AS.ev, Qc, QG, Qi, Qw, Qns, ↓reduceIte, Nat.reduceLT, Nat.reduceEqDiff, aBin, Qnl, Qnm, Qnn, Qnq, Qno, Qnw, QnD, QY, Qnt, Qnp, d4]; refine hK1 _ ?_; clear hK1
              (try simp only [Qnu, QnC])
              simp -implicitDefEqProofs only [Qd, Qb, Qg, OpW, aop, AS.ev, Qc, QG, Qi, ↓reduceIte, Nat.reduceLT, Nat.reduceEqDiff, aBin, Qnl, Qnm, Qnn, Qnq, Qno, QY, Qnt, Qnp, d5]
              repeat (first | (with_reducible (first | refine Ql ?_ | refine Qj ?_)) | ((with_reducible refine hK _ ?_); clear hK))
              simp only [QI, Qm, Qu, upd, ↓reduceIte, Qnr, Qnv]; first | refine Qf (htake _ _) (.keep (.v _)) ⟨by simp only [resB, d0, d1, d2, d3, d4, d5, Bool.or_false], rfl⟩ | refine Qf List.take_length (.keep (.v _)) ⟨by simp only [resB, d0, d1, d2, d3, d4, d5, Bool.or_false], rfl⟩
end Go.Proofs.YtehjodmnajgdgaaGreatDoor.Ab
set_option maxRecDepth 4000
namespace Go.Proofs.YtehjodmnajgdgaaGreatDoor.Ab
open Go.Proofs
theorem Qhg (s : ByteArray) (k : Nat) : byteAt (s.extract 1 s.size) k = byteAt s (k + 1) := by
  unfold byteAt
  rw [Lib.extract_data, List.take_of_length_le (by rw [List.length_drop, ← Lib.size_eq]; omega), List.getD_eq_getElem?_getD, List.getD_eq_getElem?_getD, List.getElem?_drop, Nat.add_comm 1 k]
theorem Qgi (s : ByteArray) : (s.extract 1 s.size).size = s.size - 1 := by
  rw [Lib.size_eq, Lib.extract_data, List.length_take, List.length_drop, ← Lib.size_eq]; omega
def fol (c : Int) : Prop := ofN c ≠ 0
instance (c : Int) : Decidable (fol c) := by unfold fol; infer_instance
theorem QaK (c : Int) : fol c ↔ (97 ≤ c ∧ c ≤ 122) ∨ (65 ≤ c ∧ c ≤ 90) ∨ c = 95 ∨ (48 ≤ c ∧ c ≤ 57) := by
  unfold fol ofN
  split
  · constructor
    · intro _; omega
    · intro _; decide
  · split
    · constructor
      · intro _; omega
      · intro _; decide
    · split
      · constructor
        · intro _; omega
        · intro _; decide
      · constructor
        · intro h; exact absurd rfl h
        · intro _; omega
def Fol (s : ByteArray) : Prop := ∀ k, k < s.size → fol (byteAt s k)
instance (s : ByteArray) : Decidable (Fol s) := by unfold Fol; infer_instance
theorem Qf9 (c : Int) : ofN c = 0 ∨ ofN c = 1 ∨ ofN c = 2 ∨ ofN c = 4 := by
  unfold ofN
  repeat' split
  all_goals simp
theorem Qjf (r : Int) (hr : 0 ≤ r ∧ r < 2147483648) : Pure Tryz.prog 128 [.v (.int .i32 r)] (.b (decide (122 < r ∨ ¬ fol r))) := by
  intro h
  by_cases h1 : r > 122
  · refine Qe Tryz.func128 rfl Tryz.call128 Tryz.ntmps128 (congrArg Array.toList Tryz.results128) (by simp) ?_
    repeat (first | (((with_reducible refine Qa fun K E hK hE => ?_)); simp -implicitDefEqProofs only [Qd, Qb, Qg, OpW, aop, undef, AS.ev, Qc, Qn, Qr, Qi, Qw, Qns, QnI, ↓reduceIte, Nat.reduceLT, Nat.reduceEqDiff, aBin, Qnl, Qnm, Qnn, Qnq, Qno, Xg, QnR, beq_false, h1]) | (with_reducible refine Ql ?_) | ((with_reducible refine hK _ ?_); clear hK))
    simp only [QI, Qm, Qu, upd, ↓reduceIte, Qnr, Qnv]; first | refine Qf (htake _ _) (.keep (.v _)) ⟨by rw [decide_eq_true (.inl h1)], rfl⟩ | refine Qf List.take_length (.keep (.v _)) ⟨by rw [decide_eq_true (.inl h1)], rfl⟩
  · have hcv := Qjr Tryz.prog 21 5 (ts := .int .i32) (kd := .u8) (by kernel_rfl) (by kernel_rfl) .i32
    have w0 : IntKind.u8.wrap r = r := by simp [IntKind.wrap, IntKind.bits, IntKind.signed]; omega
    have c := Qkp r (by omega)
    have hf : decide (122 < r ∨ ¬ fol r) = (ofN r == 0) := by
      by_cases h0 : ofN r = 0
      · rw [h0, decide_eq_true (.inr fun h => h h0)]; rfl
      · rw [decide_eq_false (by rintro (h | h); exact h1 h; exact h h0)]; simp [h0]
    have ha : ∀ xo yo a, a = 0 ∨ a = 1 ∨ a = 2 ∨ a = 4 → pv Tryz.prog (do eqGuard .and 117 xo yo (.int .u8 a) (.int .u8 7); binOp .and 117 (.int .u8 a) (.int .u8 7)) = some (.int .u8 a) := by
      rintro xo yo a (rfl | rfl | rfl | rfl) <;> rfl
    have ha' := fun xo yo => ha xo yo (ofN r) (Qf9 r)
    refine Qe Tryz.func128 rfl Tryz.call128 Tryz.ntmps128 (congrArg Array.toList Tryz.results128) (by simp) ?_
    repeat (first | ((first | (with_reducible (first | refine Qa fun K E hK hE => ?_ | refine Qo c ?_))); simp -implicitDefEqProofs only [Qd, Qb, Qg, OpW, QO, aop, undef, AS.ev, Qc, Qn, Qr, Qi, Qw, Qns, ↓reduceIte, Nat.reduceLT, Nat.reduceEqDiff, aBin, Qnl, Qnm, Qnn, Qnq, Qno, QnA, QnE, QS, Xg, QnS, Qnt, Qnp, h1, hcv, w0, ha']) | (with_reducible refine Ql ?_) | ((with_reducible refine hK _ ?_); clear hK))
    simp only [QI, Qm, Qu, upd, ↓reduceIte, Qnr, Qnv]; first | refine Qf (htake _ _) (.keep (.v _)) ⟨by rw [hf], rfl⟩ | refine Qf List.take_length (.keep (.v _)) ⟨by rw [hf], rfl⟩
def ixR (s : ByteArray) : Nat → Nat → Int
  | _, 0 => -1
  | p, n + 1 => if fol (byteAt s p) then ixR s (p + 1) n else p
theorem QjH (s : ByteArray) : ∀ (n p : Nat), ixR s p n < 0 ↔ ∀ k, p ≤ k → k < p + n → fol (byteAt s k)
  | 0, p => by simp only [ixR]; exact ⟨fun _ k h1 h2 => by omega, fun _ => by omega⟩
  | n + 1, p => by
    simp only [ixR]
    split
    · rename_i h
      rw [QjH s n (p + 1)]
      constructor
      · intro h' k h1 h2
        by_cases hk : k = p
        · rw [hk]; exact h
        · exact h' k (by omega) (by omega)
      · intro h' k h1 h2; exact h' k (by omega) (by omega)
    · rename_i h
      constructor
      · intro h'; omega
      · intro h'; exact absurd (h' p (Nat.le_refl _) (by omega)) h
theorem QjI (s : ByteArray) (i : Nat) : (Utf8.decode s i).1 < 2147483648 := by
  unfold Utf8.decode
  have hr : Utf8.runeError < 2147483648 := by decide
  have hb : ∀ k, (s.get! k).toNat < 256 := fun k => (s.get! k).toNat_lt
  have b0 := hb (i + 0)
  have b1 := hb (i + 1)
  have b2 := hb (i + 2)
  have b3 := hb (i + 3)
  simp only
  repeat' split
  all_goals first | exact hr | (simp only; omega)
theorem QeV (b : ByteArray) (hs : b.size ≤ maxLen) : Pure Tryz.prog 144 [.v (.string b), .fn (.func 128) [] [], .b true] (.i (ixR b 0 b.size)) := by
  intro h
  have hbe := fun xo yo a b => Qmg Tryz.prog 4 xo yo (by kernel_rfl) a b
  refine Qe Tryz.func144 rfl Tryz.call144 Tryz.ntmps144 (congrArg Array.toList Tryz.results144) (by simp) ?_
  repeat (first | (((with_reducible refine Qa fun K E hK hE => ?_)); simp -implicitDefEqProofs only [Qd, Qb, Qg, OpW, aop, undef, AS.ev, Qc, Qn, Qi, Qw, Qns, ↓reduceIte, Nat.reduceLT, Nat.reduceEqDiff, un9]) | (with_reducible (first | refine Qh fun K hK => ?_ | refine Qq ?_)) | ((with_reducible refine hK _ ?_); clear hK))
  obtain ⟨I, hI⟩ : ∃ I : Nat → AS → Prop, I = fun m' s => ∃ (p : Nat), m' = b.size - p ∧ p ≤ b.size ∧ ixR b 0 b.size = ixR b p (b.size - p) ∧ s.tm 1 = .fn (.func 128) [] [] ∧ s.tm 2 = .b true ∧ s.tm 10 = .mp h.length ∧ s.h = h ++ [.iter b p] := ⟨_, rfl⟩; refine XM I ?_ (m := b.size) ?_
  · intro m' s hs; rw [hI] at hs; obtain ⟨tm, hp⟩ := s; dsimp only at hs; obtain ⟨p, rfl, hp', he, t1, t2, t10, rfl⟩ := hs
    by_cases hlt : p < b.size
    · have c := Qjf ((Utf8.decode b p).1 : Int) ⟨by omega, by have := QjI b p; omega⟩
      obtain ⟨n, hn⟩ : ∃ n, b.size - p = n + 1 := ⟨b.size - p - 1, by omega⟩
      rw [hn, ixR] at he
      by_cases hf : fol (byteAt b p)
      · rw [if_pos hf] at he
        have hb : byteAt b p < 128 := by have := (QaK _).1 hf; omega
        obtain ⟨d1, d2⟩ := decode_ascii hb
        have hc : decide (122 < ((Utf8.decode b p).1 : Int) ∨ ¬ fol ((Utf8.decode b p).1 : Int)) = false := by
          rw [d1]
          refine decide_eq_false ?_
          rintro (h1 | h1)
          · have := (QaK _).1 hf; omega
          · exact h1 hf
        rw [hc] at c
        repeat (first | ((first | (with_reducible (first | refine Qa fun K E hK hE => ?_ | refine Qo c ?_))); simp -implicitDefEqProofs only [Qd, Qb, Qg, OpW, QO, aop, AS.ev, Qc, Qi, ↓reduceIte, Nat.reduceLT, Nat.reduceEqDiff, aBin, XB, QT, YQ, Qnl, Qnm, QnP, Qnn, QnA, QnE, goInt, beq_true, QeU, t1, t2, t10, hlt, d2, hbe]) | (with_reducible (first | refine Qh fun K hK => ?_ | refine Qq ?_ | refine QA ?_ | refine Qj ?_ | refine QD ?_)) | ((with_reducible refine hK _ ?_); clear hK) | (refine Qk rfl ?_; simp only [↓reduceIte, Qnp]))
        refine Yr.mk (m' := b.size - (p + 1)) (by omega) ?_
        rw [hI]
        exact ⟨p + 1, rfl, hlt, by rw [he, show n = b.size - (p + 1) by omega], t1, t2, t10, rfl⟩
      · rw [if_neg hf] at he
        have hc : decide (122 < ((Utf8.decode b p).1 : Int) ∨ ¬ fol ((Utf8.decode b p).1 : Int)) = true := by
          refine decide_eq_true ?_
          by_cases hb : byteAt b p < 128
          · right; rw [(decode_ascii hb).1]; exact hf
          · left; have := Qi0 (s := b) (i := p) (by omega); omega
        rw [hc] at c
        repeat (first | ((first | (with_reducible (first | refine Qa fun K E hK hE => ?_ | refine Qo c ?_))); simp -implicitDefEqProofs only [Qd, Qb, Qg, OpW, QO, aop, AS.ev, Qc, Qi, ↓reduceIte, Nat.reduceLT, Nat.reduceEqDiff, aBin, XB, QT, YQ, Qnl, Qnm, QnP, Qnn, QnA, QnE, goInt, Qnt, QeU, t1, t2, t10, hlt, hbe]) | (with_reducible (first | refine Qh fun K hK => ?_ | refine Qq ?_ | refine Ql ?_ | refine QA ?_ | refine Qj ?_ | refine Qy ?_ | refine QF ?_)) | ((with_reducible refine hK _ ?_); clear hK) | (refine Qk rfl ?_; simp only [↓reduceIte]))
        simp only [QI, Qm, Qu, upd, ↓reduceIte, Qnr, Qnv]; first | refine Qf (htake _ _) (.keep (.v _)) ⟨by rw [he], rfl⟩ | refine Qf List.take_length (.keep (.v _)) ⟨by rw [he], rfl⟩
    · rw [show b.size - p = 0 by omega, ixR] at he
      repeat (first | (((with_reducible refine Qa fun K E hK hE => ?_)); simp -implicitDefEqProofs only [Qd, Qb, Qg, OpW, aop, AS.ev, Qc, Qn, Qi, ↓reduceIte, Nat.reduceLT, XB, QT, Qnl, Qnn, QeU, t10, hlt]) | (with_reducible (first | refine Qh fun K hK => ?_ | refine Ql ?_ | refine Xj ?_ | refine Qj ?_ | refine Q9 ?_ | refine Q8 ?_)) | ((with_reducible refine hK _ ?_); clear hK) | (clear hK; (with_reducible refine hK _ ?_); clear hK) | (refine Qk rfl ?_; simp only [↓reduceIte, Qnp]))
      simp only [QI, Qm, Qu, upd, ↓reduceIte, Qnr, Qnv]; first | refine Qf (htake _ _) (.keep (.v _)) ⟨by rw [he], rfl⟩ | refine Qf List.take_length (.keep (.v _)) ⟨by rw [he], rfl⟩
  · rw [hI]
    exact ⟨0, by omega, Nat.zero_le _, rfl, rfl, rfl, rfl, rfl⟩
theorem QcB (b : ByteArray) (hs : b.size ≤ maxLen) : Pure Tryz.prog 127 [.v (.string b), .fn (.func 128) [] []] (.i (ixR b 0 b.size)) := by
  intro h
  have c := QeV b hs
  refine Qe Tryz.func127 rfl Tryz.call127 Tryz.ntmps127 (congrArg Array.toList Tryz.results127) (by simp) ?_
  repeat (first | ((first | (with_reducible (first | refine Qa fun K E hK hE => ?_ | refine Qo c ?_))); simp -implicitDefEqProofs only [Qd, Qb, Qg, OpW, QO, aop, undef, AS.ev, Qc, Qn, Qr, Qi, Qw, Qns, QnL, ↓reduceIte, Nat.reduceLT, Nat.reduceEqDiff, QnA, QnE]) | (with_reducible refine Ql ?_) | ((with_reducible refine hK _ ?_); clear hK))
  simp only [QI, Qm, Qu, upd, ↓reduceIte, Qnr, Qnv]; first | refine Qf (htake _ _) (.keep (.v _)) ⟨rfl, rfl⟩ | refine Qf List.take_length (.keep (.v _)) ⟨rfl, rfl⟩
def QbA (first : Int) (s : ByteArray) : Prop := 1 ≤ s.size ∧ s.size ≤ 40 ∧ ofN (byteAt s 0) = first ∧ Fol s
instance (first : Int) (s : ByteArray) : Decidable (QbA first s) := by unfold QbA; infer_instance
theorem QcP (s : ByteArray) : (s.toList == ({ data := #[] } : ByteArray).toList) = decide (s.size = 0) := by
  rw [Lib.toList_data, Lib.toList_data, Lib.size_eq]
  cases s.data.toList <;> simp
theorem QjV (first : Int) (hf : first = 1 ∨ first = 2) (s : ByteArray) : Pure Tryz.prog 113 [.v (.string s), .v (.int .u8 first)] (.b (decide (QbA first s))) := by
  intro h
  have hsl := fun b => YB Tryz.prog 9 3 (by kernel_rfl) b
  by_cases n0 : s.size = 0
  · have d0 : (s.toList == ({ data := #[] } : ByteArray).toList) = true := by rw [QcP, decide_eq_true n0]
    refine Qe Tryz.func113 rfl Tryz.call113 Tryz.ntmps113 (congrArg Array.toList Tryz.results113) (by simp) ?_
    repeat (first | (((with_reducible refine Qa fun K E hK hE => ?_)); simp -implicitDefEqProofs only [Qd, Qb, Qg, OpW, aop, undef, AS.ev, Qc, Qr, QG, Qi, Qw, Qns, QnI, ↓reduceIte, Nat.reduceLT, Nat.reduceEqDiff, aBin, Qnl, Qnm, Qnn, Qnq, Qno, QY, beq_false, d0]) | (with_reducible (first | refine Qh fun K hK => ?_ | refine Ql ?_ | refine Qy ?_)) | ((with_reducible refine hK _ ?_); clear hK) | (refine Qk rfl ?_; simp only [↓reduceIte]))
    simp only [QI, Qm, Qu, upd, ↓reduceIte, Qnr, Qnv]; first | refine Qf (htake _ _) (.keep (.v _)) ⟨by rw [decide_eq_false (fun h => by have := h.1; omega)], rfl⟩ | refine Qf List.take_length (.keep (.v _)) ⟨by rw [decide_eq_false (fun h => by have := h.1; omega)], rfl⟩
  · have d0 : (s.toList == ({ data := #[] } : ByteArray).toList) = false := by rw [QcP, decide_eq_false n0]
    by_cases n1 : s.size ≤ 40
    · have m1 : ¬ ((s.size : Int) > 40) := by omega
      have hix := ZD Tryz.prog 9 (by kernel_rfl) s (by omega)
      have hr := QiN s 0
      have c := Qkp (byteAt s 0) hr
      have ha : ∀ xo yo a, a = 0 ∨ a = 1 ∨ a = 2 ∨ a = 4 → pv Tryz.prog (do eqGuard .and 117 xo yo (.int .u8 a) (.int .u8 first); binOp .and 117 (.int .u8 a) (.int .u8 first)) = some (.int .u8 (if a = first then first else 0)) := by
        rcases hf with rfl | rfl <;> rintro xo yo a (rfl | rfl | rfl | rfl) <;> rfl
      have ha' := fun xo yo => ha xo yo (ofN (byteAt s 0)) (Qf9 _)
      by_cases hc : ofN (byteAt s 0) = first
      · have f0 : (first == 0) = false := by simp; omega
        have hsf := QdR Tryz.prog 9 (by kernel_rfl) s 1 (by omega)
        have hsf' : pv Tryz.prog (Instr.sliceAt 9 (.string s) (some (.int .i64 1)) none none) = some (.string (s.extract 1 s.size)) := hsf
        have ci := QcB (s.extract 1 s.size) (by rw [Qgi]; simp only [maxLen]; omega)
        have hi : decide (ixR (s.extract 1 s.size) 0 (s.extract 1 s.size).size < 0) = decide (QbA first s) := by
          rw [decide_eq_decide, QjH]
          simp only [Qgi, Qhg, Qnx]
          constructor
          · intro h1
            refine ⟨by omega, n1, hc, fun k hk => ?_⟩
            cases k with
            | zero => show ofN _ ≠ 0; rw [hc]; omega
            | succ k => exact h1 k (Nat.zero_le _) (by omega)
          · rintro ⟨_, _, _, h4⟩ k _ hk
            exact h4 (k + 1) (by omega)
        rw [if_pos hc] at ha'
        refine Qe Tryz.func113 rfl Tryz.call113 Tryz.ntmps113 (congrArg Array.toList Tryz.results113) (by simp) ?_
        repeat (first | ((first | (with_reducible (first | refine Qa fun K E hK hE => ?_ | refine Qo c ?_ | refine Qo ci ?_))); simp -implicitDefEqProofs only [Qd, Qb, Qg, OpW, QO, aop, undef, AS.ev, Qc, Qn, Qr, QG, Qi, Qw, Qns, QnL, ↓reduceIte, Nat.reduceLT, Nat.reduceEqDiff, aBin, Yx, aLen, Qnl, Qnm, Qnn, Qn0, Qnq, Qno, QnA, QnE, QS, Q0, Xg, QY, goInt, QnS, Qnt, Qnp, ei9, d0, hsl, m1, hix, ha', f0, hsf']) | (with_reducible (first | refine Qh fun K hK => ?_ | refine Ql ?_ | refine QA ?_ | refine Qj ?_)) | ((with_reducible refine hK _ ?_); clear hK) | (refine Qk rfl ?_; simp only [↓reduceIte, Qnp]))
        simp only [QI, Qm, Qu, upd, ↓reduceIte, Qnr, Qnv]; first | refine Qf (htake _ _) (.keep (.v _)) ⟨by rw [hi], rfl⟩ | refine Qf List.take_length (.keep (.v _)) ⟨by rw [hi], rfl⟩
      · rw [if_neg hc] at ha'
        refine Qe Tryz.func113 rfl Tryz.call113 Tryz.ntmps113 (congrArg Array.toList Tryz.results113) (by simp) ?_
        repeat (first | ((first | (with_reducible (first | refine Qa fun K E hK hE => ?_ | refine Qo c ?_))); simp -implicitDefEqProofs only [Qd, Qb, Qg, OpW, QO, aop, undef, AS.ev, Qc, Qn, Qr, QG, Qi, Qw, Qns, QnL, ↓reduceIte, Nat.reduceLT, Nat.reduceEqDiff, aBin, aLen, Qnl, Qnm, Qnn, Qnq, Qno, QnA, QnE, QS, Xg, QY, goInt, QnS, Qnt, Qnp, d0, hsl, m1, hix, ha']) | (with_reducible (first | refine Qh fun K hK => ?_ | refine Ql ?_ | refine Qy ?_)) | ((with_reducible refine hK _ ?_); clear hK) | (refine Qk rfl ?_; simp only [↓reduceIte]))
        simp only [QI, Qm, Qu, upd, ↓reduceIte, Qnr, Qnv]; first | refine Qf (htake _ _) (.keep (.v _)) ⟨by rw [decide_eq_false (fun h => hc h.2.2.1)], rfl⟩ | refine Qf List.take_length (.keep (.v _)) ⟨by rw [decide_eq_false (fun h => hc h.2.2.1)], rfl⟩
    · have m1 : ((s.size : Int) > 40) := by omega
      refine Qe Tryz.func113 rfl Tryz.call113 Tryz.ntmps113 (congrArg Array.toList Tryz.results113) (by simp) ?_
      repeat (first | (((with_reducible refine Qa fun K E hK hE => ?_)); simp -implicitDefEqProofs only [Qd, Qb, Qg, OpW, aop, undef, AS.ev, Qc, Qn, Qr, QG, Qi, Qw, Qns, QnI, ↓reduceIte, Nat.reduceLT, Nat.reduceEqDiff, aBin, aLen, Qnl, Qnm, Qnn, Qnq, Qno, Xg, QY, goInt, QnR, Qnt, Qnp, beq_false, d0, hsl, m1]) | (with_reducible (first | refine Qh fun K hK => ?_ | refine Ql ?_ | refine Qy ?_)) | ((with_reducible refine hK _ ?_); clear hK) | (refine Qk rfl ?_; simp only [↓reduceIte]))
      simp only [QI, Qm, Qu, upd, ↓reduceIte, Qnr, Qnv]; first | refine Qf (htake _ _) (.keep (.v _)) ⟨by rw [decide_eq_false (fun h => by have := h.2.1; omega)], rfl⟩ | refine Qf List.take_length (.keep (.v _)) ⟨by rw [decide_eq_false (fun h => by have := h.2.1; omega)], rfl⟩
end Go.Proofs.YtehjodmnajgdgaaGreatDoor.Ab
namespace Go.Proofs
open Go.Shelf
def Tryz.Qm7 : Go.Shelf.Ren := ⟨fun | 161 => 115 | 231 => 129 | 227 => 130 | 233 => 131 | 235 => 132 | 228 => 145 | 197 => 146 | 151 => 147 | 260 => 161 | 152 => 162 | 137 => 172 | 119 => 173 | 224 => 168 | 225 => 167 | 217 => 166 | 266 => 176 | n => n, fun | 9 => 9 | 4 => 4 | 3 => 3 | 5 => 5 | 117 => 130 | 116 => 129 | 0 => 0 | 124 => 133 | 105 => 142 | 21 => 21 | 119 => 165 | 46 => 155 | 139 => 168 | 138 => 167 | n => n, fun | 3 => 4 | 4 => 5 | n => n⟩
theorem Tryz.lays161 : Go.Proofs.Lays.n161 Tryz.prog Tryz.Qm7 := {
  mixed := by kernel_rfl
  f119 := Tryz.func173.trans (congrArg some (by kernel_rfl))
  f137 := Tryz.func172.trans (congrArg some (by kernel_rfl))
  f151 := Tryz.func147.trans (congrArg some (by kernel_rfl))
  f152 := Tryz.func162.trans (congrArg some (by kernel_rfl))
  f161 := Tryz.func115.trans (congrArg some (by kernel_rfl))
  f197 := Tryz.func146.trans (congrArg some (by kernel_rfl))
  f217 := Tryz.func166.trans (congrArg some (by kernel_rfl))
  f224 := Tryz.func168.trans (congrArg some (by kernel_rfl))
  f225 := Tryz.func167.trans (congrArg some (by kernel_rfl))
  f227 := Tryz.func130.trans (congrArg some (by kernel_rfl))
  f228 := Tryz.func145.trans (congrArg some (by kernel_rfl))
  f231 := Tryz.func129.trans (congrArg some (by kernel_rfl))
  f233 := Tryz.func131.trans (congrArg some (by kernel_rfl))
  f235 := Tryz.func132.trans (congrArg some (by kernel_rfl))
  f260 := Tryz.func161.trans (congrArg some (by kernel_rfl))
  f266 := Tryz.func176.trans (congrArg some (by kernel_rfl))
  t0 := Tryz.underlying0
  a0 := Tryz.isAgg0
  z0 := Tryz.sizeOf0
  v0 := Tryz.zeroValue0
  t3 := Tryz.underlying3
  a3 := Tryz.isAgg3
  z3 := Tryz.sizeOf3
  v3 := Tryz.zeroValue3
  t4 := Tryz.underlying4
  a4 := Tryz.isAgg4
  z4 := Tryz.sizeOf4
  v4 := Tryz.zeroValue4
  t5 := Tryz.underlying5
  a5 := Tryz.isAgg5
  z5 := Tryz.sizeOf5
  v5 := Tryz.zeroValue5
  t9 := Tryz.underlying9
  a9 := Tryz.isAgg9
  z9 := Tryz.sizeOf9
  v9 := Tryz.zeroValue9
  t21 := Tryz.underlying21
  a21 := Tryz.isAgg21
  z21 := Tryz.sizeOf21
  v21 := Tryz.zeroValue21
  t46 := Tryz.underlying155
  a46 := Tryz.isAgg155
  z46 := Tryz.sizeOf155
  v46 := Tryz.zeroValue155
  t105 := Tryz.underlying142
  a105 := Tryz.isAgg142
  z105 := Tryz.sizeOf142
  v105 := Tryz.zeroValue142
  t116 := Tryz.underlying129
  a116 := Tryz.isAgg129
  z116 := Tryz.sizeOf129
  t117 := Tryz.underlying130
  a117 := Tryz.isAgg130
  z117 := Tryz.sizeOf130
  v117 := Tryz.zeroValue130
  t119 := Tryz.underlying165
  a119 := Tryz.isAgg165
  z119 := Tryz.sizeOf165
  t124 := Tryz.underlying133
  a124 := Tryz.isAgg133
  z124 := Tryz.sizeOf133
  v124 := Tryz.zeroValue133
  t138 := Tryz.underlying167
  a138 := Tryz.isAgg167
  z138 := Tryz.sizeOf167
  v138 := Tryz.zeroValue167
  t139 := Tryz.underlying168
  a139 := Tryz.isAgg168
  z139 := Tryz.sizeOf168
  v139 := Tryz.zeroValue168
  g3 := by kernel_rfl
  g4 := by kernel_rfl }
theorem Tryz.strings_TrimLeft_one (s : ByteArray) (c : UInt8) (hc : c.toNat < 128) (w : World) :
    Calls Tryz.prog 115 #[.string s, .string ⟨#[c]⟩] w fun e w' => e = .returned (.string ⟨(Lib.trimLeftB s.data.toList c).toArray⟩) ∧ w' = w := Any.strings_TrimLeft_one Tryz.lays161 s c hc w
def Tryz.Qm6 : Go.Shelf.Ren := ⟨fun | 171 => 72 | 243 => 111 | 246 => 125 | 283 => 140 | 284 => 141 | 285 => 142 | 286 => 143 | 129 => 157 | 317 => 156 | 318 => 158 | 319 => 159 | 320 => 160 | 337 => 170 | 338 => 171 | n => n, fun | 3 => 3 | 9 => 9 | 2 => 2 | 4 => 4 | 171 => 135 | 0 => 0 | 53 => 136 | 37 => 67 | 5 => 5 | 173 => 139 | 212 => 152 | 51 => 153 | 20 => 20 | 213 => 154 | 46 => 155 | 232 => 175 | 233 => 176 | n => n, fun | 17 => 0 | 18 => 6 | 19 => 7 | n => n⟩
theorem Tryz.laysM171 : Go.Proofs.LaysM.n171 Tryz.prog Tryz.Qm6 := {
  mixed := by kernel_rfl
  f129 := Tryz.func157.trans (congrArg some (by kernel_rfl))
  f171 := Tryz.func72.trans (congrArg some (by kernel_rfl))
  f243 := Tryz.func111.trans (congrArg some (by kernel_rfl))
  f246 := Tryz.func125.trans (congrArg some (by kernel_rfl))
  f283 := Tryz.func140.trans (congrArg some (by kernel_rfl))
  f284 := Tryz.func141.trans (congrArg some (by kernel_rfl))
  f285 := Tryz.func142.trans (congrArg some (by kernel_rfl))
  f286 := Tryz.func143.trans (congrArg some (by kernel_rfl))
  f317 := Tryz.func156.trans (congrArg some (by kernel_rfl))
  f318 := Tryz.func158.trans (congrArg some (by kernel_rfl))
  f319 := Tryz.func159.trans (congrArg some (by kernel_rfl))
  f320 := Tryz.func160.trans (congrArg some (by kernel_rfl))
  f337 := Tryz.func170.trans (congrArg some (by kernel_rfl))
  f338 := Tryz.func171.trans (congrArg some (by kernel_rfl))
  t0 := Tryz.underlying0
  a0 := Tryz.isAgg0
  z0 := Tryz.sizeOf0
  v0 := Tryz.zeroValue0
  t2 := Tryz.underlying2
  a2 := Tryz.isAgg2
  z2 := Tryz.sizeOf2
  v2 := Tryz.zeroValue2
  t3 := Tryz.underlying3
  a3 := Tryz.isAgg3
  z3 := Tryz.sizeOf3
  v3 := Tryz.zeroValue3
  t4 := Tryz.underlying4
  a4 := Tryz.isAgg4
  z4 := Tryz.sizeOf4
  v4 := Tryz.zeroValue4
  t5 := Tryz.underlying5
  a5 := Tryz.isAgg5
  z5 := Tryz.sizeOf5
  v5 := Tryz.zeroValue5
  t9 := Tryz.underlying9
  a9 := Tryz.isAgg9
  z9 := Tryz.sizeOf9
  v9 := Tryz.zeroValue9
  t20 := Tryz.underlying20
  a20 := Tryz.isAgg20
  z20 := Tryz.sizeOf20
  v20 := Tryz.zeroValue20
  t37 := Tryz.underlying67
  a37 := Tryz.isAgg67
  z37 := Tryz.sizeOf67
  v37 := Tryz.zeroValue67
  t46 := Tryz.underlying155
  a46 := Tryz.isAgg155
  z46 := Tryz.sizeOf155
  v46 := Tryz.zeroValue155
  t51 := Tryz.underlying153
  a51 := Tryz.isAgg153
  z51 := Tryz.sizeOf153
  v51 := Tryz.zeroValue153
  t53 := Tryz.underlying136
  a53 := Tryz.isAgg136
  z53 := Tryz.sizeOf136
  v53 := Tryz.zeroValue136
  t171 := Tryz.underlying135
  a171 := Tryz.isAgg135
  z171 := Tryz.sizeOf135
  v171 := Tryz.zeroValue135
  t173 := Tryz.underlying139
  a173 := Tryz.isAgg139
  z173 := Tryz.sizeOf139
  v173 := Tryz.zeroValue139
  t212 := Tryz.underlying152
  a212 := Tryz.isAgg152
  z212 := Tryz.sizeOf152
  v212 := Tryz.zeroValue152
  t213 := Tryz.underlying154
  a213 := Tryz.isAgg154
  z213 := Tryz.sizeOf154
  t232 := Tryz.underlying175
  a232 := Tryz.isAgg175
  z232 := Tryz.sizeOf175
  v232 := Tryz.zeroValue175
  t233 := Tryz.underlying176
  a233 := Tryz.isAgg176
  z233 := Tryz.sizeOf176
  v233 := Tryz.zeroValue176
  g17 := by kernel_rfl
  g18 := by kernel_rfl
  g19 := by kernel_rfl
  i0 := by kernel_rfl
  i2 := by kernel_rfl
  i3 := by kernel_rfl
  i4 := by kernel_rfl
  i5 := by kernel_rfl
  i9 := by kernel_rfl
  i20 := by kernel_rfl
  i37 := by kernel_rfl
  i46 := by kernel_rfl
  i51 := by kernel_rfl
  i53 := by kernel_rfl
  i171 := by kernel_rfl
  i173 := by kernel_rfl
  i212 := by kernel_rfl
  i232 := by kernel_rfl
  i233 := by kernel_rfl
  m17 := by kernel_rfl
  m18 := by kernel_rfl
  m19 := by kernel_rfl }
open Go.RowKit Go.Sort Go.Lib in
theorem Tryz.strconv_Itoa (n : Int) (h0 : -9223372036854775808 ≤ n) (h1 : n ≤ 9223372036854775807) (w : World) (htab : Lib.TabIs Tryz.prog w "internal/strconv.uint64pow10" .u64 Lib.pow10Tab) :
    Calls Tryz.prog 72 #[.int .i64 n] w fun e w' => e = .returned (.string ⟨(Lib.itoa n).toArray⟩) ∧ ∃ k os, w' = grow (w.drewN k) os := Any.strconv_Itoa Tryz.laysM171 n h0 h1 w htab
def Tryz.Qm5 : Go.Shelf.Ren := ⟨fun | 172 => 119 | 244 => 137 | 245 => 138 | 247 => 150 | 279 => 151 | 280 => 152 | 281 => 153 | 282 => 154 | 287 => 163 | 316 => 164 | 171 => 72 | 205 => 165 | 321 => 174 | 322 => 175 | 243 => 111 | 246 => 125 | 283 => 140 | 284 => 141 | 285 => 142 | 286 => 143 | 129 => 157 | 317 => 156 | 318 => 158 | 319 => 159 | 320 => 160 | 337 => 170 | 338 => 171 | n => n, fun | 9 => 9 | 3 => 3 | 75 => 63 | 76 => 64 | 4 => 4 | 5 => 5 | 167 => 145 | 37 => 67 | 0 => 0 | 85 => 146 | 2 => 2 | 168 => 148 | 53 => 136 | 175 => 158 | 46 => 155 | 210 => 161 | 127 => 111 | 145 => 172 | 143 => 170 | 21 => 21 | 171 => 135 | 173 => 139 | 212 => 152 | 51 => 153 | 20 => 20 | 213 => 154 | 232 => 175 | 233 => 176 | 80 => 83 | n => n, fun | 15 => 1 | 16 => 2 | 17 => 0 | 18 => 6 | 19 => 7 | n => n⟩
theorem Tryz.laysC172 : Go.Proofs.LaysC.n172 Tryz.prog Tryz.Qm5 := {
  mixed := by kernel_rfl
  f129 := Tryz.func157.trans (congrArg some (by kernel_rfl))
  f171 := Tryz.func72.trans (congrArg some (by kernel_rfl))
  f172 := Tryz.func119.trans (congrArg some (by kernel_rfl))
  f205 := Tryz.func165.trans (congrArg some (by kernel_rfl))
  f243 := Tryz.func111.trans (congrArg some (by kernel_rfl))
  f244 := Tryz.func137.trans (congrArg some (by kernel_rfl))
  f245 := Tryz.func138.trans (congrArg some (by kernel_rfl))
  f246 := Tryz.func125.trans (congrArg some (by kernel_rfl))
  f247 := Tryz.func150.trans (congrArg some (by kernel_rfl))
  f279 := Tryz.func151.trans (congrArg some (by kernel_rfl))
  f280 := Tryz.func152.trans (congrArg some (by kernel_rfl))
  f281 := Tryz.func153.trans (congrArg some (by kernel_rfl))
  f282 := Tryz.func154.trans (congrArg some (by kernel_rfl))
  f283 := Tryz.func140.trans (congrArg some (by kernel_rfl))
  f284 := Tryz.func141.trans (congrArg some (by kernel_rfl))
  f285 := Tryz.func142.trans (congrArg some (by kernel_rfl))
  f286 := Tryz.func143.trans (congrArg some (by kernel_rfl))
  f287 := Tryz.func163.trans (congrArg some (by kernel_rfl))
  f316 := Tryz.func164.trans (congrArg some (by kernel_rfl))
  f317 := Tryz.func156.trans (congrArg some (by kernel_rfl))
  f318 := Tryz.func158.trans (congrArg some (by kernel_rfl))
  f319 := Tryz.func159.trans (congrArg some (by kernel_rfl))
  f320 := Tryz.func160.trans (congrArg some (by kernel_rfl))
  f321 := Tryz.func174.trans (congrArg some (by kernel_rfl))
  f322 := Tryz.func175.trans (congrArg some (by kernel_rfl))
  f337 := Tryz.func170.trans (congrArg some (by kernel_rfl))
  f338 := Tryz.func171.trans (congrArg some (by kernel_rfl))
  t0 := Tryz.underlying0
  a0 := Tryz.isAgg0
  z0 := Tryz.sizeOf0
  v0 := Tryz.zeroValue0
  t2 := Tryz.underlying2
  a2 := Tryz.isAgg2
  z2 := Tryz.sizeOf2
  v2 := Tryz.zeroValue2
  t3 := Tryz.underlying3
  a3 := Tryz.isAgg3
  z3 := Tryz.sizeOf3
  v3 := Tryz.zeroValue3
  t4 := Tryz.underlying4
  a4 := Tryz.isAgg4
  z4 := Tryz.sizeOf4
  v4 := Tryz.zeroValue4
  t5 := Tryz.underlying5
  a5 := Tryz.isAgg5
  z5 := Tryz.sizeOf5
  v5 := Tryz.zeroValue5
  t9 := Tryz.underlying9
  a9 := Tryz.isAgg9
  z9 := Tryz.sizeOf9
  v9 := Tryz.zeroValue9
  t20 := Tryz.underlying20
  a20 := Tryz.isAgg20
  z20 := Tryz.sizeOf20
  v20 := Tryz.zeroValue20
  t21 := Tryz.underlying21
  a21 := Tryz.isAgg21
  z21 := Tryz.sizeOf21
  v21 := Tryz.zeroValue21
  t37 := Tryz.underlying67
  a37 := Tryz.isAgg67
  z37 := Tryz.sizeOf67
  v37 := Tryz.zeroValue67
  t46 := Tryz.underlying155
  a46 := Tryz.isAgg155
  z46 := Tryz.sizeOf155
  v46 := Tryz.zeroValue155
  t51 := Tryz.underlying153
  a51 := Tryz.isAgg153
  z51 := Tryz.sizeOf153
  v51 := Tryz.zeroValue153
  t53 := Tryz.underlying136
  a53 := Tryz.isAgg136
  z53 := Tryz.sizeOf136
  v53 := Tryz.zeroValue136
  t75 := Tryz.underlying63
  a75 := Tryz.isAgg63
  z75 := Tryz.sizeOf63
  v75 := Tryz.zeroValue63
  t76 := Tryz.underlying64
  a76 := Tryz.isAgg64
  z76 := Tryz.sizeOf64
  v76 := Tryz.zeroValue64
  t85 := Tryz.underlying146
  a85 := Tryz.isAgg146
  z85 := Tryz.sizeOf146
  v85 := Tryz.zeroValue146
  t127 := Tryz.underlying111
  a127 := Tryz.isAgg111
  z127 := Tryz.sizeOf111
  v127 := Tryz.zeroValue111
  t143 := Tryz.underlying170
  a143 := Tryz.isAgg170
  z143 := Tryz.sizeOf170
  v143 := Tryz.zeroValue170
  t145 := Tryz.underlying172
  a145 := Tryz.isAgg172
  z145 := Tryz.sizeOf172
  v145 := Tryz.zeroValue172
  t167 := Tryz.underlying145
  a167 := Tryz.isAgg145
  z167 := Tryz.sizeOf145
  v167 := Tryz.zeroValue145
  t168 := Tryz.underlying148
  a168 := Tryz.isAgg148
  z168 := Tryz.sizeOf148
  v168 := Tryz.zeroValue148
  t171 := Tryz.underlying135
  a171 := Tryz.isAgg135
  z171 := Tryz.sizeOf135
  v171 := Tryz.zeroValue135
  t173 := Tryz.underlying139
  a173 := Tryz.isAgg139
  z173 := Tryz.sizeOf139
  v173 := Tryz.zeroValue139
  t175 := Tryz.underlying158
  a175 := Tryz.isAgg158
  z175 := Tryz.sizeOf158
  v175 := Tryz.zeroValue158
  t210 := Tryz.underlying161
  a210 := Tryz.isAgg161
  z210 := Tryz.sizeOf161
  v210 := Tryz.zeroValue161
  t212 := Tryz.underlying152
  a212 := Tryz.isAgg152
  z212 := Tryz.sizeOf152
  v212 := Tryz.zeroValue152
  t213 := Tryz.underlying154
  a213 := Tryz.isAgg154
  z213 := Tryz.sizeOf154
  t232 := Tryz.underlying175
  a232 := Tryz.isAgg175
  z232 := Tryz.sizeOf175
  v232 := Tryz.zeroValue175
  t233 := Tryz.underlying176
  a233 := Tryz.isAgg176
  z233 := Tryz.sizeOf176
  v233 := Tryz.zeroValue176
  g15 := by kernel_rfl
  g16 := by kernel_rfl
  g17 := by kernel_rfl
  g18 := by kernel_rfl
  g19 := by kernel_rfl
  t80 := Tryz.underlying83
  a80 := Tryz.isAgg83
  z80 := Tryz.sizeOf83
  v80 := Tryz.zeroValue83
  i0 := by kernel_rfl
  i2 := by kernel_rfl
  i3 := by kernel_rfl
  i4 := by kernel_rfl
  i5 := by kernel_rfl
  i9 := by kernel_rfl
  i20 := by kernel_rfl
  i21 := by kernel_rfl
  i37 := by kernel_rfl
  i46 := by kernel_rfl
  i51 := by kernel_rfl
  i53 := by kernel_rfl
  i75 := by kernel_rfl
  i76 := by kernel_rfl
  i80 := by kernel_rfl
  i85 := by kernel_rfl
  i127 := by kernel_rfl
  i143 := by kernel_rfl
  i145 := by kernel_rfl
  i167 := by kernel_rfl
  i168 := by kernel_rfl
  i171 := by kernel_rfl
  i173 := by kernel_rfl
  i175 := by kernel_rfl
  i210 := by kernel_rfl
  i212 := by kernel_rfl
  i232 := by kernel_rfl
  i233 := by kernel_rfl
  m15 := by kernel_rfl
  m16 := by kernel_rfl
  m17 := by kernel_rfl
  m18 := by kernel_rfl
  m19 := by kernel_rfl
  c0 := by kernel_rfl
  c2 := by kernel_rfl
  c3 := by kernel_rfl
  c4 := by kernel_rfl
  c5 := by kernel_rfl
  c9 := by kernel_rfl
  c20 := by kernel_rfl
  c21 := by kernel_rfl
  c37 := by kernel_rfl
  c46 := by kernel_rfl
  c51 := by kernel_rfl
  c53 := by kernel_rfl
  c75 := by kernel_rfl
  c76 := by kernel_rfl
  c80 := by kernel_rfl
  c85 := by kernel_rfl
  c127 := by kernel_rfl
  c143 := by kernel_rfl
  c145 := by kernel_rfl
  c167 := by kernel_rfl
  c168 := by kernel_rfl
  c171 := by kernel_rfl
  c173 := by kernel_rfl
  c175 := by kernel_rfl
  c210 := by kernel_rfl
  c212 := by kernel_rfl
  c213 := by kernel_rfl
  c232 := by kernel_rfl
  c233 := by kernel_rfl }
theorem Tryz.strconv_Atoi_ok (s : ByteArray) (hmax : s.size ≤ 9223372036854775806) (v : Int) (h : Lib.atoiAll s.data.toList = .ok v) (w : World) :
    Calls Tryz.prog 119 #[.string s] w fun e w' => e = .returned (.tuple #[.int .i64 v, .nilIface]) ∧ (w' = w ∨ ∃ t, w' = Lib.bytesWorld w 5 t) := Any.strconv_Atoi_ok Tryz.laysC172 s hmax v h w
def Tryz.Qm9 : Go.Shelf.Ren := ⟨fun | 144 => 124 | 143 => 139 | 219 => 155 | 217 => 166 | 225 => 167 | 224 => 168 | 267 => 169 | 266 => 176 | 314 => 177 | n => n, fun | 9 => 9 | 4 => 4 | 3 => 3 | 5 => 5 | 46 => 155 | 146 => 173 | 51 => 153 | n => n, fun | 1 => 3 | n => n⟩
theorem Tryz.lays144 : Go.Proofs.Lays.n144 Tryz.prog Tryz.Qm9 := {
  mixed := by kernel_rfl
  f143 := Tryz.func139.trans (congrArg some (by kernel_rfl))
  f144 := Tryz.func124.trans (congrArg some (by kernel_rfl))
  f217 := Tryz.func166.trans (congrArg some (by kernel_rfl))
  f219 := Tryz.func155.trans (congrArg some (by kernel_rfl))
  f224 := Tryz.func168.trans (congrArg some (by kernel_rfl))
  f225 := Tryz.func167.trans (congrArg some (by kernel_rfl))
  f266 := Tryz.func176.trans (congrArg some (by kernel_rfl))
  f267 := Tryz.func169.trans (congrArg some (by kernel_rfl))
  f314 := Tryz.func177.trans (congrArg some (by kernel_rfl))
  t3 := Tryz.underlying3
  a3 := Tryz.isAgg3
  z3 := Tryz.sizeOf3
  v3 := Tryz.zeroValue3
  t4 := Tryz.underlying4
  a4 := Tryz.isAgg4
  z4 := Tryz.sizeOf4
  v4 := Tryz.zeroValue4
  t5 := Tryz.underlying5
  a5 := Tryz.isAgg5
  z5 := Tryz.sizeOf5
  v5 := Tryz.zeroValue5
  t9 := Tryz.underlying9
  a9 := Tryz.isAgg9
  z9 := Tryz.sizeOf9
  v9 := Tryz.zeroValue9
  t46 := Tryz.underlying155
  a46 := Tryz.isAgg155
  z46 := Tryz.sizeOf155
  v46 := Tryz.zeroValue155
  t51 := Tryz.underlying153
  a51 := Tryz.isAgg153
  z51 := Tryz.sizeOf153
  v51 := Tryz.zeroValue153
  t146 := Tryz.underlying173
  a146 := Tryz.isAgg173
  z146 := Tryz.sizeOf173
  v146 := Tryz.zeroValue173
  g1 := by kernel_rfl }
theorem Tryz.strings_Contains_one (s : ByteArray) (c : UInt8) (w : World) :
    Calls Tryz.prog 124 #[.string s, .string ⟨#[c]⟩] w fun e w' => e = .returned (.bool (decide (0 ≤ Lib.indexByte s.data.toList c))) ∧ w' = w := Any.strings_Contains_one Tryz.lays144 s c w
end Go.Proofs
namespace Go.Proofs.YtehjodmnajgdgaaGreatDoor.Ab
inductive Alt where
  | done
  | stop
  | alt (i c : Nat) (sub more : Alt)
section
variable (P : Program) (N : Nat) (ops : Array Oper) (K : AS → Prop) (s : AS)
end
theorem Y0 {P : Program} {N : Nat} {x y : Code} {Q : AExit → AS → Prop} {s : AS} (J : AS → Prop) (h1 : ∀ s, J s → Yl P N y Q s) (h2 : Yl P N x (AExit.then J Q) s) : Yl P N (.seq x y) Q s := by
  refine Qbb (h2.mono fun e s' hq => ?_)
  cases e with
  | normal => exact h1 s' hq
  | _ => exact hq
end Go.Proofs.YtehjodmnajgdgaaGreatDoor.Ab
set_option maxRecDepth 4000
namespace Go.Proofs.YtehjodmnajgdgaaGreatDoor.Ab
open Go.Proofs
theorem QcS (s : ByteArray) : Pure Tryz.prog 83 [.v (.string s)] (.b (decide (QbA 1 s) && !resB s)) := by
  intro h
  have c := QjV 1 (.inl rfl) s
  have cr := Qfz s
  cases hw : decide (QbA 1 s) with
  | false =>
    rw [hw] at c
    refine Qe Tryz.func83 rfl Tryz.call83 Tryz.ntmps83 (congrArg Array.toList Tryz.results83) (by simp) ?_
    repeat (first | ((first | (with_reducible (first | refine Qa fun K E hK hE => ?_ | refine Qo c ?_))); simp -implicitDefEqProofs only [Qd, Qb, Qg, OpW, QO, aop, undef, AS.ev, Qc, Qn, Qr, Qi, Qw, Qns, ↓reduceIte, Nat.reduceLT, Nat.reduceEqDiff, Qnl, Qnm, Qnq, Qno, QnA, QnE, Qnp, beq_true]) | (with_reducible refine Ql ?_) | ((with_reducible refine hK _ ?_); clear hK))
    simp only [QI, Qm, Qu, upd, ↓reduceIte, Qnr, Qnv]; first | refine Qf (htake _ _) (.keep (.v _)) ⟨rfl, rfl⟩ | refine Qf List.take_length (.keep (.v _)) ⟨rfl, rfl⟩
  | true =>
    rw [hw] at c
    refine Qe Tryz.func83 rfl Tryz.call83 Tryz.ntmps83 (congrArg Array.toList Tryz.results83) (by simp) ?_
    repeat (first | ((first | (with_reducible (first | refine Qa fun K E hK hE => ?_ | refine Qo c ?_ | refine Qo cr ?_))); simp -implicitDefEqProofs only [Qd, Qb, Qg, OpW, QO, aop, undef, AS.ev, Qc, Qn, Qr, Qi, Qw, Qns, ↓reduceIte, Nat.reduceLT, Nat.reduceEqDiff, Qnl, Qnm, Qnn, Qnq, Qno, QnA, QnE, Xa, Qnt]) | (with_reducible refine Ql ?_) | ((with_reducible refine hK _ ?_); clear hK))
    simp only [QI, Qm, Qu, upd, ↓reduceIte, Qnr, Qnv]; first | refine Qf (htake _ _) (.keep (.v _)) ⟨rfl, rfl⟩ | refine Qf List.take_length (.keep (.v _)) ⟨rfl, rfl⟩
theorem Qj1 (c : Int) : ofN c = 1 ↔ 97 ≤ c ∧ c ≤ 122 := by
  unfold ofN
  repeat' split
  all_goals (constructor <;> intro _ <;> first | omega | assumption | trivial | contradiction)
def ZZ (s : ByteArray) : Prop := 1 ≤ s.size ∧ s.size ≤ 40 ∧ Fol s
instance (s : ByteArray) : Decidable (ZZ s) := by unfold ZZ; infer_instance
theorem Qgg (b : ByteArray) (hb : b.size ≤ maxLen) : Pure Tryz.prog 105 [.v (.string b)] (.b (decide (ZZ b))) := by
  intro h
  have hsl := fun b => YB Tryz.prog 9 3 (by kernel_rfl) b
  have hbm : b.size ≤ 9223372036854775807 := hb
  refine Qe Tryz.func105 rfl Tryz.call105 Tryz.ntmps105 (congrArg Array.toList Tryz.results105) (by simp) ?_
  repeat (first | (((with_reducible refine Qa fun K E hK hE => ?_)); simp -implicitDefEqProofs only [Qd, Qb, Qg, OpW, aop, AS.ev, Qc, Qn, Qr, Nat.reduceLT]) | (with_reducible (first | refine Qh fun K hK => ?_ | refine Qq ?_)) | ((with_reducible refine hK _ ?_); clear hK))
  obtain ⟨I, hI⟩ : ∃ I : Nat → AS → Prop, I = fun m' s => ∃ (p : Nat), m' = b.size - p ∧ p ≤ b.size ∧ (∀ k, k < p → fol (byteAt b k)) ∧ s.tm 0 = .v (.string b) ∧ s.tm 3 = .i p ∧ s.h = h := ⟨_, rfl⟩; refine XM I ?_ (m := b.size) ?_
  · intro m' s hs; rw [hI] at hs; obtain ⟨tm, hp⟩ := s; dsimp only at hs; obtain ⟨p, rfl, hp', he, t0, t3, rfl⟩ := hs
    by_cases hlt : p < b.size
    · have hix := Qcz Tryz.prog 9 (by kernel_rfl) b p hlt
      have c1 := QbX (byteAt b p)
      have c2 := Qfq (byteAt b p)
      have onw : fol (byteAt b p) → ∀ k, k < p + 1 → fol (byteAt b k) := fun hf k hk => by
        rcases Nat.lt_or_ge k p with h' | h'
        · exact he k h'
        · have : k = p := by omega
          rw [this]; exact hf
      have stop : ¬ fol (byteAt b p) → decide (ZZ b) = false := fun hf => decide_eq_false fun h => hf (h.2.2 p hlt)
      iterate 9 (try (first | (((with_reducible refine Qa fun K E hK hE => ?_)); simp -implicitDefEqProofs only [Qd, Qb, Qg, OpW, aop, AS.ev, Qc, Qi, ↓reduceIte, Nat.reduceLT, Nat.reduceEqDiff, aBin, aLen, Qnn, Q0, goInt, QnR, Qn9, t0, t3, hsl, hlt]) | (with_reducible (first | refine Qh fun K hK => ?_ | refine Qq ?_ | refine QA ?_ | refine Qj ?_)) | ((with_reducible refine hK _ ?_); clear hK) | (refine Qk rfl ?_; simp only [↓reduceIte])))
      refine Y0 (fun s => s.tm 39 = .b (decide (¬ fol (byteAt b p))) ∧ s.tm 0 = .v (.string b) ∧ s.tm 3 = .i p ∧ s.h = hp) ?_ ?_
      · rintro ⟨tm, hq⟩ ⟨t39, t0, t3, rfl⟩
        dsimp only at t39 t0 t3
        by_cases hf : fol (byteAt b p)
        · rw [decide_eq_false (fun h => h hf)] at t39
          refine Qk (by exact t39) ?_
          simp only [↓reduceIte, Qnp]
          repeat (first | (((with_reducible refine Qs fun K E hK hE => ?_)); simp -implicitDefEqProofs only [Qd, Qb, Qg, OpW, aop, AS.ev, Qc, Qn, Qi, ↓reduceIte, Nat.reduceLT, aBin, Qnn, X8, t3]) | (with_reducible (first | refine QA ?_ | refine Qj ?_ | refine QD ?_)) | ((with_reducible refine hK _ ?_); clear hK))
          refine Yr.mk (m' := b.size - (p + 1)) (by omega) ?_
          rw [hI]
          refine ⟨p + 1, rfl, hlt, onw hf, t0, ?_, rfl⟩
          simp only [upd, ↓reduceIte]
          rw [Yd (by omega)]
        · rw [decide_eq_true hf] at t39
          refine Qk (by exact t39) ?_
          simp only [↓reduceIte]
          repeat (first | (((with_reducible refine Qa fun K E hK hE => ?_)); simp -implicitDefEqProofs only [Qd, Qb, Qg, OpW, aop, AS.ev, Qc, Qr, Nat.reduceLT]) | (with_reducible (first | refine Ql ?_ | refine Qy ?_ | refine QF ?_)) | ((with_reducible refine hK _ ?_); clear hK))
          simp only [QI, Qm, Qu, upd, ↓reduceIte, Qnr, Qnv]
          exact Qf List.take_length (.keep (.v _)) ⟨by rw [stop hf], rfl⟩
      · refine Qs fun K E hK hE => ?_
        by_cases hl : 97 ≤ byteAt b p ∧ byteAt b p ≤ 122
        · rw [decide_eq_true hl] at c1
          have hv : decide (¬ fol (byteAt b p)) = false := decide_eq_false fun h => h ((QaK _).2 (.inl hl))
          (try simp only [QnW]); refine Qz 6 (fun K1 hK1 => ?_); simp -implicitDefEqProofs only [Qb, Qg, OpW, aop, AS.ev, Qc, Qi, ↓reduceIte, Nat.reduceLT, Nat.reduceEqDiff, Qnn, QnA, QnE, Qnw, QnD, t0, t3, hix]; (repeat ((((with_reducible refine Qo c1 ?_)); simp -implicitDefEqProofs only [Qd, Qb, Qg, OpW, QO, aop, AS.ev, Qc, Qi, QnI, ↓reduceIte, Nat.reduceLT, Qnn, Xa]))); refine hK1 _ ?_; clear hK1
          (try simp only [Qnu, QnC]); refine Qz 7 (fun K1 hK1 => ?_); simp -implicitDefEqProofs only [Qd, Qb, Qg, OpW, aop, undef, AS.ev, Qc, Qr, Qi, ↓reduceIte, Nat.reduceLT, Nat.reduceEqDiff, Qnl, Qnm, Qnq, Qno, Qnw, QnD, Qnp, beq_true]; (repeat ((((with_reducible refine Qa fun K E hK hE => ?_)); simp -implicitDefEqProofs only [Qd, Qb, Qg, OpW, QO, aop, undef, Qb2, Qn1, Qn2, Qic, QdW, QfD, AS.ev, Qc, QV, Qn, Qr, QG, YG, QfV, Zb, QaE, Xz, Qf6, Qi, Qw, Qns, QnL, AV.QmP, QB, QU, Yf, Qcs, Xu, Qct, QdQ, QdU, Qcg, QJ, Xp, QaM, Qcp, Qa2, Qcu, QdS, QdG, Qb9, QnF, QnG, Qv, Qby, Qt, QM, Qci, YX, ZC, Zg, QC, Qcf, XC, Qch, QdK, QdH, Qb1, QnH, Qn4, Qn5, QnI, QnJ, ↓reduceIte, Qny, Qnz, Nat.reduceAdd, Nat.reduceLT, Nat.reduceLeDiff, Nat.reduceEqDiff, Nat.reduceSub, Nat.reduceMul, Qnx, QnK, QnU, QnV, QnT, Yi, Z3, aBin, aLen, QT, hget, YQ, hset, hlen, happ, Qnl, Qnm, Qob, QnP, QnQ, Qnn, Qn0, Qnq, QnZ, Qnr, QnW, Qno, QnA, QnE, QnN, QnM, QnO, Qnw, QnD, Qnu, QnC, Xh, Q0, Xe, Xg, XD, X8, Xa, Qa4, QbS, QcY, goInt, QnR, QnS, Qnt, Qn6, QnY, Int.toNat_zero, Int.toNat_one, QnX, Qn9, Qoa, Qn7, Qnp, Qn3, beq_true, beq_false, Nat.reducePow, Nat.zero_le, Nat.zero_mul, T.QmN, T.QmO, QH, QaA, ti3, zi3, un3, ti4, zi4, un4, ti5, zi5, un5, ti9, ei9, zi9, un9, Qn8, Int.sub_zero, QeU, QX, t0, t3, hix]))); refine hK1 _ ?_; clear hK1
          (try simp only [Qnu, QnC]); refine Qz 5 (fun K1 hK1 => ?_); simp -implicitDefEqProofs only [Qd, Qb, Qg, undef, Qc, Qi, ↓reduceIte, Nat.reduceLT, Nat.reduceEqDiff, Qnl, Qnm, Qnq, Qno, Qnw, QnD, beq_true]; refine hK1 _ ?_; clear hK1
          (try simp only [Qnu, QnC]); refine Qz 6 (fun K1 hK1 => ?_); simp -implicitDefEqProofs only [Qd, Qb, Qg, OpW, aop, undef, AS.ev, Qc, Qr, Qi, ↓reduceIte, Nat.reduceLT, Nat.reduceEqDiff, Qnl, Qnm, Qnq, Qno, Qnw, QnD, Qnp, beq_true]; refine hK1 _ ?_; clear hK1
          (try simp only [Qnu, QnC])
          simp -implicitDefEqProofs only [Qd, Qb, Qg, OpW, aop, undef, AS.ev, Qc, Qr, Qi, ↓reduceIte, Nat.reduceLT, Nat.reduceEqDiff, Qnl, Qnm, Qnq, Qno, Qnp, beq_true]
          repeat (first | (with_reducible refine Qj ?_) | ((with_reducible refine hK _ ?_); clear hK))
          (try (refine hK _ ?_; rw [Yi]))
          exact ⟨by rw [hv]; rfl, t0, t3, rfl⟩
        · rw [decide_eq_false hl] at c1
          by_cases hu : 65 ≤ byteAt b p ∧ byteAt b p ≤ 90
          · rw [decide_eq_true hu] at c2
            have hv : decide (¬ fol (byteAt b p)) = false := decide_eq_false fun h => h ((QaK _).2 (.inr (.inl hu)))
            (try simp only [QnW]); refine Qz 6 (fun K1 hK1 => ?_); simp -implicitDefEqProofs only [Qb, Qg, OpW, aop, AS.ev, Qc, Qi, ↓reduceIte, Nat.reduceLT, Nat.reduceEqDiff, Qnn, QnA, QnE, Qnw, QnD, t0, t3, hix]; (repeat ((((with_reducible refine Qo c1 ?_)); simp -implicitDefEqProofs only [Qd, Qb, Qg, OpW, QO, aop, AS.ev, Qc, Qi, QnJ, ↓reduceIte, Nat.reduceLT, Qnn, Xa]))); refine hK1 _ ?_; clear hK1
            (try simp only [Qnu, QnC]); refine Qz 7 (fun K1 hK1 => ?_); simp -implicitDefEqProofs only [Qb, Qg, OpW, aop, AS.ev, Qc, Qi, ↓reduceIte, Nat.reduceLT, Nat.reduceEqDiff, Qnl, Qnm, Qnn, Qnq, Qno, QnA, QnE, Qnw, QnD, Qnt, t0, t3, hix]; (repeat ((((with_reducible refine Qo c2 ?_)); simp -implicitDefEqProofs only [Qd, Qb, Qg, OpW, QO, aop, AS.ev, Qc, Qi, QnI, ↓reduceIte, Nat.reduceLT, Nat.reduceEqDiff, Qnl, Qnm, Qnn, Qnq, Qno, Xa, Qnt]))); refine hK1 _ ?_; clear hK1
            (try simp only [Qnu, QnC]); refine Qz 5 (fun K1 hK1 => ?_); simp -implicitDefEqProofs only [Qd, Qb, Qg, undef, Qc, Qi, ↓reduceIte, Nat.reduceLT, Nat.reduceEqDiff, Qnl, Qnm, Qnq, Qno, Qnw, QnD, beq_true]; refine hK1 _ ?_; clear hK1
            (try simp only [Qnu, QnC]); refine Qz 6 (fun K1 hK1 => ?_); simp -implicitDefEqProofs only [Qd, Qb, Qg, OpW, aop, undef, AS.ev, Qc, Qr, Qi, ↓reduceIte, Nat.reduceLT, Nat.reduceEqDiff, Qnl, Qnm, Qnq, Qno, Qnw, QnD, Qnp, beq_true]; refine hK1 _ ?_; clear hK1
            (try simp only [Qnu, QnC])
            simp -implicitDefEqProofs only [Qd, Qb, Qg, OpW, aop, undef, AS.ev, Qc, Qr, Qi, ↓reduceIte, Nat.reduceLT, Nat.reduceEqDiff, Qnl, Qnm, Qnq, Qno, Qnp, beq_true]
            repeat (first | (with_reducible refine Qj ?_) | ((with_reducible refine hK _ ?_); clear hK))
            (try (refine hK _ ?_; rw [Yi]))
            exact ⟨by rw [hv]; rfl, t0, t3, rfl⟩
          · rw [decide_eq_false hu] at c2
            by_cases d1 : byteAt b p < 48
            · have q' : (byteAt b p != 95) = true := by simp; omega
              have hv : decide (¬ fol (byteAt b p)) = true := decide_eq_true fun hf => by have := (QaK _).1 hf; omega
              (try simp only [QnW]); refine Qz 6 (fun K1 hK1 => ?_); simp -implicitDefEqProofs only [Qb, Qg, OpW, aop, AS.ev, Qc, Qi, ↓reduceIte, Nat.reduceLT, Nat.reduceEqDiff, Qnn, QnA, QnE, Qnw, QnD, t0, t3, hix]; (repeat ((((with_reducible refine Qo c1 ?_)); simp -implicitDefEqProofs only [Qd, Qb, Qg, OpW, QO, aop, AS.ev, Qc, Qi, QnJ, ↓reduceIte, Nat.reduceLT, Qnn, Xa]))); refine hK1 _ ?_; clear hK1
              (try simp only [Qnu, QnC]); refine Qz 7 (fun K1 hK1 => ?_); simp -implicitDefEqProofs only [Qb, Qg, OpW, aop, AS.ev, Qc, Qi, ↓reduceIte, Nat.reduceLT, Nat.reduceEqDiff, Qnl, Qnm, Qnn, Qnq, Qno, QnA, QnE, Qnw, QnD, Qnt, t0, t3, hix]; (repeat ((((with_reducible refine Qo c2 ?_)); simp -implicitDefEqProofs only [Qd, Qb, Qg, OpW, QO, aop, AS.ev, Qc, Qi, QnJ, ↓reduceIte, Nat.reduceLT, Nat.reduceEqDiff, Qnl, Qnm, Qnn, Qnq, Qno, Xa, Qnt]))); refine hK1 _ ?_; clear hK1
              (try simp only [Qnu, QnC]); refine Qz 5 (fun K1 hK1 => ?_); simp -implicitDefEqProofs only [Qd, Qb, Qg, OpW, aop, AS.ev, Qc, Qn, Qi, ↓reduceIte, Nat.reduceLT, Nat.reduceEqDiff, aBin, Qnl, Qnm, Qnn, Qnq, Qno, Qnw, QnD, Q0, QnR, Qnt, t0, t3, hix, d1]; refine hK1 _ ?_; clear hK1
              (try simp only [Qnu, QnC]); refine Qz 6 (fun K1 hK1 => ?_); simp -implicitDefEqProofs only [Qd, Qb, Qg, OpW, aop, undef, AS.ev, Qc, Qr, Qi, QnI, ↓reduceIte, Nat.reduceLT, Nat.reduceEqDiff, Qnl, Qnm, Qnq, Qno, Qnw, QnD, Qnt, beq_false]; refine hK1 _ ?_; clear hK1
              (try simp only [Qnu, QnC])
              simp -implicitDefEqProofs only [Qd, Qb, Qg, OpW, aop, AS.ev, Qc, Qn, Qi, ↓reduceIte, Nat.reduceLT, Nat.reduceEqDiff, aBin, Qnl, Qnm, Qnn, Qnq, Qno, Xh, Qnt, t0, t3, hix, q']
              repeat (first | (with_reducible refine Qj ?_) | ((with_reducible refine hK _ ?_); clear hK))
              (try (refine hK _ ?_; rw [Yi]))
              exact ⟨by rw [hv]; rfl, t0, t3, rfl⟩
            · by_cases d2 : byteAt b p > 57
              · by_cases q : byteAt b p = 95
                · have q' : (byteAt b p != 95) = false := by simp [q]
                  have hv : decide (¬ fol (byteAt b p)) = false := decide_eq_false fun h => h ((QaK _).2 (.inr (.inr (.inl q))))
                  (try simp only [QnW]); refine Qz 6 (fun K1 hK1 => ?_); simp -implicitDefEqProofs only [Qb, Qg, OpW, aop, AS.ev, Qc, Qi, ↓reduceIte, Nat.reduceLT, Nat.reduceEqDiff, Qnn, QnA, QnE, Qnw, QnD, t0, t3, hix]; (repeat ((((with_reducible refine Qo c1 ?_)); simp -implicitDefEqProofs only [Qd, Qb, Qg, OpW, QO, aop, AS.ev, Qc, Qi, QnJ, ↓reduceIte, Nat.reduceLT, Qnn, Xa]))); refine hK1 _ ?_; clear hK1
                  (try simp only [Qnu, QnC]); refine Qz 7 (fun K1 hK1 => ?_); simp -implicitDefEqProofs only [Qb, Qg, OpW, aop, AS.ev, Qc, Qi, ↓reduceIte, Nat.reduceLT, Nat.reduceEqDiff, Qnl, Qnm, Qnn, Qnq, Qno, QnA, QnE, Qnw, QnD, Qnt, t0, t3, hix]; (repeat ((((with_reducible refine Qo c2 ?_)); simp -implicitDefEqProofs only [Qd, Qb, Qg, OpW, QO, aop, AS.ev, Qc, Qi, QnJ, ↓reduceIte, Nat.reduceLT, Nat.reduceEqDiff, Qnl, Qnm, Qnn, Qnq, Qno, Xa, Qnt]))); refine hK1 _ ?_; clear hK1
                  (try simp only [Qnu, QnC]); refine Qz 5 (fun K1 hK1 => ?_); simp -implicitDefEqProofs only [Qd, Qb, Qg, OpW, aop, AS.ev, Qc, Qn, Qi, ↓reduceIte, Nat.reduceLT, Nat.reduceEqDiff, aBin, Qnl, Qnm, Qnn, Qnq, Qno, Qnw, QnD, Q0, QnS, Qnt, t0, t3, hix, d1]; refine hK1 _ ?_; clear hK1
                  (try simp only [Qnu, QnC]); refine Qz 6 (fun K1 hK1 => ?_); simp -implicitDefEqProofs only [Qd, Qb, Qg, OpW, aop, AS.ev, Qc, Qn, Qi, ↓reduceIte, Nat.reduceLT, Nat.reduceEqDiff, aBin, Qnl, Qnm, Qnn, Qnq, Qno, Qnw, QnD, Xg, QnR, Qnt, Qnp, t0, t3, hix, d2]; refine hK1 _ ?_; clear hK1
                  (try simp only [Qnu, QnC])
                  simp -implicitDefEqProofs only [Qd, Qb, Qg, OpW, aop, AS.ev, Qc, Qn, Qi, ↓reduceIte, Nat.reduceLT, Nat.reduceEqDiff, aBin, Qnl, Qnm, Qnn, Qnq, Qno, Xh, Qnt, t0, t3, hix, q']
                  repeat (first | (with_reducible refine Qj ?_) | ((with_reducible refine hK _ ?_); clear hK))
                  (try (refine hK _ ?_; rw [Yi]))
                  exact ⟨by rw [hv]; rfl, t0, t3, rfl⟩
                · have q' : (byteAt b p != 95) = true := by simp [q]
                  have hv : decide (¬ fol (byteAt b p)) = true := decide_eq_true fun hf => by have := (QaK _).1 hf; omega
                  (try simp only [QnW]); refine Qz 6 (fun K1 hK1 => ?_); simp -implicitDefEqProofs only [Qb, Qg, OpW, aop, AS.ev, Qc, Qi, ↓reduceIte, Nat.reduceLT, Nat.reduceEqDiff, Qnn, QnA, QnE, Qnw, QnD, t0, t3, hix]; (repeat ((((with_reducible refine Qo c1 ?_)); simp -implicitDefEqProofs only [Qd, Qb, Qg, OpW, QO, aop, AS.ev, Qc, Qi, QnJ, ↓reduceIte, Nat.reduceLT, Qnn, Xa]))); refine hK1 _ ?_; clear hK1
                  (try simp only [Qnu, QnC]); refine Qz 7 (fun K1 hK1 => ?_); simp -implicitDefEqProofs only [Qb, Qg, OpW, aop, AS.ev, Qc, Qi, ↓reduceIte, Nat.reduceLT, Nat.reduceEqDiff, Qnl, Qnm, Qnn, Qnq, Qno, QnA, QnE, Qnw, QnD, Qnt, t0, t3, hix]; (repeat ((((with_reducible refine Qo c2 ?_)); simp -implicitDefEqProofs only [Qd, Qb, Qg, OpW, QO, aop, AS.ev, Qc, Qi, QnJ, ↓reduceIte, Nat.reduceLT, Nat.reduceEqDiff, Qnl, Qnm, Qnn, Qnq, Qno, Xa, Qnt]))); refine hK1 _ ?_; clear hK1
                  (try simp only [Qnu, QnC]); refine Qz 5 (fun K1 hK1 => ?_); simp -implicitDefEqProofs only [Qd, Qb, Qg, OpW, aop, AS.ev, Qc, Qn, Qi, ↓reduceIte, Nat.reduceLT, Nat.reduceEqDiff, aBin, Qnl, Qnm, Qnn, Qnq, Qno, Qnw, QnD, Q0, QnS, Qnt, t0, t3, hix, d1]; refine hK1 _ ?_; clear hK1
                  (try simp only [Qnu, QnC]); refine Qz 6 (fun K1 hK1 => ?_); simp -implicitDefEqProofs only [Qd, Qb, Qg, OpW, aop, AS.ev, Qc, Qn, Qi, ↓reduceIte, Nat.reduceLT, Nat.reduceEqDiff, aBin, Qnl, Qnm, Qnn, Qnq, Qno, Qnw, QnD, Xg, QnR, Qnt, Qnp, t0, t3, hix, d2]; refine hK1 _ ?_; clear hK1
                  (try simp only [Qnu, QnC])
                  simp -implicitDefEqProofs only [Qd, Qb, Qg, OpW, aop, AS.ev, Qc, Qn, Qi, ↓reduceIte, Nat.reduceLT, Nat.reduceEqDiff, aBin, Qnl, Qnm, Qnn, Qnq, Qno, Xh, Qnt, t0, t3, hix, q']
                  repeat (first | (with_reducible refine Qj ?_) | ((with_reducible refine hK _ ?_); clear hK))
                  (try (refine hK _ ?_; rw [Yi]))
                  exact ⟨by rw [hv]; rfl, t0, t3, rfl⟩
              · skip
                have hv : decide (¬ fol (byteAt b p)) = false := decide_eq_false fun h => h ((QaK _).2 (.inr (.inr (.inr ⟨by omega, by omega⟩))))
                (try simp only [QnW]); refine Qz 6 (fun K1 hK1 => ?_); simp -implicitDefEqProofs only [Qb, Qg, OpW, aop, AS.ev, Qc, Qi, ↓reduceIte, Nat.reduceLT, Nat.reduceEqDiff, Qnn, QnA, QnE, Qnw, QnD, t0, t3, hix]; (repeat ((((with_reducible refine Qo c1 ?_)); simp -implicitDefEqProofs only [Qd, Qb, Qg, OpW, QO, aop, AS.ev, Qc, Qi, QnJ, ↓reduceIte, Nat.reduceLT, Qnn, Xa]))); refine hK1 _ ?_; clear hK1
                (try simp only [Qnu, QnC]); refine Qz 7 (fun K1 hK1 => ?_); simp -implicitDefEqProofs only [Qb, Qg, OpW, aop, AS.ev, Qc, Qi, ↓reduceIte, Nat.reduceLT, Nat.reduceEqDiff, Qnl, Qnm, Qnn, Qnq, Qno, QnA, QnE, Qnw, QnD, Qnt, t0, t3, hix]; (repeat ((((with_reducible refine Qo c2 ?_)); simp -implicitDefEqProofs only [Qd, Qb, Qg, OpW, QO, aop, AS.ev, Qc, Qi, QnJ, ↓reduceIte, Nat.reduceLT, Nat.reduceEqDiff, Qnl, Qnm, Qnn, Qnq, Qno, Xa, Qnt]))); refine hK1 _ ?_; clear hK1
                (try simp only [Qnu, QnC]); refine Qz 5 (fun K1 hK1 => ?_); simp -implicitDefEqProofs only [Qd, Qb, Qg, OpW, aop, AS.ev, Qc, Qn, Qi, ↓reduceIte, Nat.reduceLT, Nat.reduceEqDiff, aBin, Qnl, Qnm, Qnn, Qnq, Qno, Qnw, QnD, Q0, QnS, Qnt, t0, t3, hix, d1]; refine hK1 _ ?_; clear hK1
                (try simp only [Qnu, QnC]); refine Qz 6 (fun K1 hK1 => ?_); simp -implicitDefEqProofs only [Qd, Qb, Qg, OpW, aop, AS.ev, Qc, Qn, Qi, ↓reduceIte, Nat.reduceLT, Nat.reduceEqDiff, aBin, Qnl, Qnm, Qnn, Qnq, Qno, Qnw, QnD, Xg, QnS, Qnt, Qnp, t0, t3, hix, d2]; refine hK1 _ ?_; clear hK1
                (try simp only [Qnu, QnC])
                simp -implicitDefEqProofs only [Qd, Qb, Qg, OpW, aop, undef, AS.ev, Qc, Qr, Qi, ↓reduceIte, Nat.reduceLT, Nat.reduceEqDiff, Qnl, Qnm, Qnq, Qno, Qnp, beq_true]
                repeat (first | (with_reducible refine Qj ?_) | ((with_reducible refine hK _ ?_); clear hK))
                (try (refine hK _ ?_; rw [Yi]))
                exact ⟨by rw [hv]; rfl, t0, t3, rfl⟩
    · have hpz : p = b.size := by omega
      rw [hpz] at he
      by_cases g1 : (b.size : Int) ≥ 1
      · by_cases g2 : (b.size : Int) ≤ 40
        · repeat (first | (((with_reducible refine Qa fun K E hK hE => ?_)); simp -implicitDefEqProofs only [Qd, Qb, Qg, OpW, aop, AS.ev, Qc, Qn, Qi, ↓reduceIte, Nat.reduceLT, Nat.reduceEqDiff, aBin, aLen, Qnl, Qnm, Qnn, Qnq, Qno, Q0, Xe, XD, goInt, QnR, QnS, Qnt, Qn9, t0, t3, hsl, hlt, g1, g2]) | (with_reducible (first | refine Qh fun K hK => ?_ | refine Ql ?_ | refine Xj ?_ | refine Qj ?_ | refine Q9 ?_ | refine Q8 ?_)) | ((with_reducible refine hK _ ?_); clear hK) | (clear hK; (with_reducible refine hK _ ?_); clear hK) | (refine Qk rfl ?_; simp only [↓reduceIte, Qnp]))
          simp only [QI, Qm, Qu, upd, ↓reduceIte, Qnr, Qnv]
          exact Qf List.take_length (.keep (.v _)) ⟨by rw [decide_eq_true (show ZZ b from ⟨by omega, by omega, he⟩)], rfl⟩
        · repeat (first | (((with_reducible refine Qa fun K E hK hE => ?_)); simp -implicitDefEqProofs only [Qd, Qb, Qg, OpW, aop, AS.ev, Qc, Qn, Qi, ↓reduceIte, Nat.reduceLT, Nat.reduceEqDiff, aBin, aLen, Qnl, Qnm, Qnn, Qnq, Qno, Q0, Xe, XD, goInt, QnR, QnS, Qnt, Qn9, t0, t3, hsl, hlt, g1, g2]) | (with_reducible (first | refine Qh fun K hK => ?_ | refine Ql ?_ | refine Xj ?_ | refine Qj ?_ | refine Q9 ?_ | refine Q8 ?_)) | ((with_reducible refine hK _ ?_); clear hK) | (clear hK; (with_reducible refine hK _ ?_); clear hK) | (refine Qk rfl ?_; simp only [↓reduceIte, Qnp]))
          simp only [QI, Qm, Qu, upd, ↓reduceIte, Qnr, Qnv]
          exact Qf List.take_length (.keep (.v _)) ⟨by rw [decide_eq_false (fun h : ZZ b => by have := h.2.1; omega)], rfl⟩
      · repeat (first | (((with_reducible refine Qa fun K E hK hE => ?_)); simp -implicitDefEqProofs only [Qd, Qb, Qg, OpW, aop, undef, AS.ev, Qc, Qn, Qr, Qi, ↓reduceIte, Nat.reduceLT, Nat.reduceEqDiff, aBin, aLen, Qnl, Qnm, Qnn, Qnq, Qno, Q0, XD, goInt, QnS, Qn9, Qnp, beq_true, t0, t3, hsl, hlt, g1]) | (with_reducible (first | refine Qh fun K hK => ?_ | refine Ql ?_ | refine Xj ?_ | refine Qj ?_ | refine Q9 ?_ | refine Q8 ?_)) | ((with_reducible refine hK _ ?_); clear hK) | (clear hK; (with_reducible refine hK _ ?_); clear hK) | (refine Qk rfl ?_; simp only [↓reduceIte, Qnp]))
        simp only [QI, Qm, Qu, upd, ↓reduceIte, Qnr, Qnv]
        exact Qf List.take_length (.keep (.v _)) ⟨by rw [decide_eq_false (fun h : ZZ b => by have := h.1; omega)], rfl⟩
  · rw [hI]
    exact ⟨0, by omega, Nat.zero_le _, fun k hk => by omega, rfl, rfl, rfl⟩
theorem Qb6 (s : ByteArray) (hb : s.size ≤ maxLen) : Pure Tryz.prog 64 [.v (.string s)] (.b (decide (QbA 1 s) && !resB s)) := by
  intro h
  have c := Qgg s hb
  have cr := Qdt s
  have cl := QbX (byteAt s 0)
  by_cases hw : ZZ s
  · rw [decide_eq_true hw] at c
    have hix := ZD Tryz.prog 9 (by kernel_rfl) s (by have := hw.1; omega)
    by_cases hl : 97 ≤ byteAt s 0 ∧ byteAt s 0 ≤ 122
    · rw [decide_eq_true hl] at cl
      have e : decide (QbA 1 s) = true := decide_eq_true ⟨hw.1, hw.2.1, (Qj1 _).2 hl, hw.2.2⟩
      refine Qe Tryz.func64 rfl Tryz.call64 Tryz.ntmps64 (congrArg Array.toList Tryz.results64) (by simp) ?_
      repeat (first | ((first | (with_reducible (first | refine Qa fun K E hK hE => ?_ | refine Qo c ?_ | refine Qo cl ?_ | refine Qo cr ?_))); simp -implicitDefEqProofs only [Qd, Qb, Qg, OpW, QO, aop, undef, AS.ev, Qc, Qn, Qr, Qi, Qw, Qns, ↓reduceIte, Nat.reduceLT, Nat.reduceEqDiff, Qnl, Qnm, Qnn, Qnq, Qno, QnA, QnE, Xa, Qnt, hix]) | (with_reducible refine Ql ?_) | ((with_reducible refine hK _ ?_); clear hK))
      simp only [QI, Qm, Qu, upd, ↓reduceIte, Qnr, Qnv]; first | refine Qf (htake _ _) (.keep (.v _)) ⟨by rw [e, Bool.true_and], rfl⟩ | refine Qf List.take_length (.keep (.v _)) ⟨by rw [e, Bool.true_and], rfl⟩
    · rw [decide_eq_false hl] at cl
      have e : decide (QbA 1 s) = false := decide_eq_false fun h => hl ((Qj1 _).1 h.2.2.1)
      refine Qe Tryz.func64 rfl Tryz.call64 Tryz.ntmps64 (congrArg Array.toList Tryz.results64) (by simp) ?_
      repeat (first | ((first | (with_reducible (first | refine Qa fun K E hK hE => ?_ | refine Qo c ?_ | refine Qo cl ?_))); simp -implicitDefEqProofs only [Qd, Qb, Qg, OpW, QO, aop, undef, AS.ev, Qc, Qn, Qr, Qi, Qw, Qns, ↓reduceIte, Nat.reduceLT, Nat.reduceEqDiff, Qnl, Qnm, Qnn, Qnq, Qno, QnA, QnE, Qnt, Qnp, beq_true, hix]) | (with_reducible refine Ql ?_) | ((with_reducible refine hK _ ?_); clear hK))
      simp only [QI, Qm, Qu, upd, ↓reduceIte, Qnr, Qnv]; first | refine Qf (htake _ _) (.keep (.v _)) ⟨by rw [e]; rfl, rfl⟩ | refine Qf List.take_length (.keep (.v _)) ⟨by rw [e]; rfl, rfl⟩
  · rw [decide_eq_false hw] at c
    have e : decide (QbA 1 s) = false := decide_eq_false fun h => hw ⟨h.1, h.2.1, h.2.2.2⟩
    refine Qe Tryz.func64 rfl Tryz.call64 Tryz.ntmps64 (congrArg Array.toList Tryz.results64) (by simp) ?_
    repeat (first | ((first | (with_reducible (first | refine Qa fun K E hK hE => ?_ | refine Qo c ?_))); simp -implicitDefEqProofs only [Qd, Qb, Qg, OpW, QO, aop, undef, AS.ev, Qc, Qr, Qi, Qw, Qns, ↓reduceIte, Nat.reduceLT, Nat.reduceEqDiff, Qnl, Qnm, Qnq, Qno, QnA, QnE, Qnp, beq_true]) | (with_reducible refine Ql ?_) | ((with_reducible refine hK _ ?_); clear hK))
    simp only [QI, Qm, Qu, upd, ↓reduceIte, Qnr, Qnv]; first | refine Qf (htake _ _) (.keep (.v _)) ⟨by rw [e]; rfl, rfl⟩ | refine Qf List.take_length (.keep (.v _)) ⟨by rw [e]; rfl, rfl⟩
end Go.Proofs.YtehjodmnajgdgaaGreatDoor.Ab
set_option maxRecDepth 4000
namespace Go.Proofs.YtehjodmnajgdgaaGreatDoor.Ab
open Go.Proofs Go.RowKit
def opB (s : ByteArray) : Bool := (s.toList == ({ data := #[43] } : ByteArray).toList) || (s.toList == ({ data := #[45] } : ByteArray).toList) || (s.toList == ({ data := #[42] } : ByteArray).toList) || (s.toList == ({ data := #[47] } : ByteArray).toList) || (s.toList == ({ data := #[37] } : ByteArray).toList)
theorem QaN (s : ByteArray) : Pure Tryz.prog 103 [.v (.string s)] (.b (opB s)) := by
  intro h
  cases d0 : (s.toList == ({ data := #[43] } : ByteArray).toList) with
  | true =>
    refine Qe Tryz.func103 rfl Tryz.call103 Tryz.ntmps103 (congrArg Array.toList Tryz.results103) (by simp) ?_
    iterate 3 (try (first | (((with_reducible refine Qa fun K E hK hE => ?_)); simp -implicitDefEqProofs only [Qd, Qb, Qg, OpW, aop, AS.ev, Qc, Qr, Nat.reduceLT]) | (with_reducible refine Qh fun K hK => ?_) | ((with_reducible refine hK _ ?_); clear hK)))
    (with_reducible refine Qs fun K E hK hE => ?_)
    (try simp only [QnW]); refine Qz 4 (fun K1 hK1 => ?_); simp -implicitDefEqProofs only [Qd, Qb, Qg, OpW, aop, undef, AS.ev, Qc, QG, Qi, Qw, Qns, QnI, ↓reduceIte, Nat.reduceLT, Nat.reduceEqDiff, aBin, Qnl, Qnm, Qnn, Qnq, Qno, Qnw, QnD, QY, beq_false, d0]; refine hK1 _ ?_; clear hK1
    (try simp only [Qnu, QnC]); refine Qz 4 (fun K1 hK1 => ?_); simp -implicitDefEqProofs only [Qd, Qb, Qg, OpW, aop, undef, AS.ev, Qc, Qr, Qi, QnI, ↓reduceIte, Nat.reduceLT, Nat.reduceEqDiff, Qnl, Qnm, Qnq, Qno, Qnw, QnD, beq_false]; refine hK1 _ ?_; clear hK1
    (try simp only [Qnu, QnC]); refine Qz 4 (fun K1 hK1 => ?_); simp -implicitDefEqProofs only [Qd, Qb, Qg, OpW, aop, undef, AS.ev, Qc, Qr, Qi, QnI, ↓reduceIte, Nat.reduceLT, Nat.reduceEqDiff, Qnl, Qnm, Qnq, Qno, Qnw, QnD, beq_false]; refine hK1 _ ?_; clear hK1
    (try simp only [Qnu, QnC]); refine Qz 4 (fun K1 hK1 => ?_); simp -implicitDefEqProofs only [Qd, Qb, Qg, OpW, aop, undef, AS.ev, Qc, Qr, Qi, QnI, ↓reduceIte, Nat.reduceLT, Nat.reduceEqDiff, Qnl, Qnm, Qnq, Qno, Qnw, QnD, beq_false]; refine hK1 _ ?_; clear hK1
    (try simp only [Qnu, QnC])
    simp -implicitDefEqProofs only [Qd, Qb, Qg, OpW, aop, undef, AS.ev, Qc, Qr, Qi, QnI, ↓reduceIte, Nat.reduceLT, Nat.reduceEqDiff, Qnl, Qnm, Qnq, Qno, beq_false]
    repeat (first | (with_reducible (first | refine Ql ?_ | refine Qj ?_)) | ((with_reducible refine hK _ ?_); clear hK))
    simp only [QI, Qm, Qu, upd, ↓reduceIte, Qnr, Qnv]; first | refine Qf (htake _ _) (.keep (.v _)) ⟨by simp only [opB, d0, Bool.true_or], rfl⟩ | refine Qf List.take_length (.keep (.v _)) ⟨by simp only [opB, d0, Bool.true_or], rfl⟩
  | false =>
    cases d1 : (s.toList == ({ data := #[45] } : ByteArray).toList) with
    | true =>
      refine Qe Tryz.func103 rfl Tryz.call103 Tryz.ntmps103 (congrArg Array.toList Tryz.results103) (by simp) ?_
      iterate 3 (try (first | (((with_reducible refine Qa fun K E hK hE => ?_)); simp -implicitDefEqProofs only [Qd, Qb, Qg, OpW, aop, AS.ev, Qc, Qr, Nat.reduceLT]) | (with_reducible refine Qh fun K hK => ?_) | ((with_reducible refine hK _ ?_); clear hK)))
      (with_reducible refine Qs fun K E hK hE => ?_)
      (try simp only [QnW]); refine Qz 4 (fun K1 hK1 => ?_); simp -implicitDefEqProofs only [Qd, Qb, Qg, OpW, aop, undef, AS.ev, Qc, QG, Qi, Qw, Qns, ↓reduceIte, Nat.reduceLT, Nat.reduceEqDiff, aBin, Qnl, Qnm, Qnn, Qnq, Qno, Qnw, QnD, QY, Qnt, d0]; refine hK1 _ ?_; clear hK1
      (try simp only [Qnu, QnC]); refine Qz 4 (fun K1 hK1 => ?_); simp -implicitDefEqProofs only [Qd, Qb, Qg, OpW, aop, undef, AS.ev, Qc, QG, Qi, QnI, ↓reduceIte, Nat.reduceLT, Nat.reduceEqDiff, aBin, Qnl, Qnm, Qnn, Qnq, Qno, Qnw, QnD, QY, Qnt, Qnp, beq_false, d1]; refine hK1 _ ?_; clear hK1
      (try simp only [Qnu, QnC]); refine Qz 4 (fun K1 hK1 => ?_); simp -implicitDefEqProofs only [Qd, Qb, Qg, OpW, aop, undef, AS.ev, Qc, Qr, Qi, QnI, ↓reduceIte, Nat.reduceLT, Nat.reduceEqDiff, Qnl, Qnm, Qnq, Qno, Qnw, QnD, beq_false]; refine hK1 _ ?_; clear hK1
      (try simp only [Qnu, QnC]); refine Qz 4 (fun K1 hK1 => ?_); simp -implicitDefEqProofs only [Qd, Qb, Qg, OpW, aop, undef, AS.ev, Qc, Qr, Qi, QnI, ↓reduceIte, Nat.reduceLT, Nat.reduceEqDiff, Qnl, Qnm, Qnq, Qno, Qnw, QnD, beq_false]; refine hK1 _ ?_; clear hK1
      (try simp only [Qnu, QnC])
      simp -implicitDefEqProofs only [Qd, Qb, Qg, OpW, aop, undef, AS.ev, Qc, Qr, Qi, QnI, ↓reduceIte, Nat.reduceLT, Nat.reduceEqDiff, Qnl, Qnm, Qnq, Qno, beq_false]
      repeat (first | (with_reducible (first | refine Ql ?_ | refine Qj ?_)) | ((with_reducible refine hK _ ?_); clear hK))
      simp only [QI, Qm, Qu, upd, ↓reduceIte, Qnr, Qnv]; first | refine Qf (htake _ _) (.keep (.v _)) ⟨by simp only [opB, d0, d1, Bool.or_true, Bool.true_or], rfl⟩ | refine Qf List.take_length (.keep (.v _)) ⟨by simp only [opB, d0, d1, Bool.or_true, Bool.true_or], rfl⟩
    | false =>
      cases d2 : (s.toList == ({ data := #[42] } : ByteArray).toList) with
      | true =>
        refine Qe Tryz.func103 rfl Tryz.call103 Tryz.ntmps103 (congrArg Array.toList Tryz.results103) (by simp) ?_
        iterate 3 (try (first | (((with_reducible refine Qa fun K E hK hE => ?_)); simp -implicitDefEqProofs only [Qd, Qb, Qg, OpW, aop, AS.ev, Qc, Qr, Nat.reduceLT]) | (with_reducible refine Qh fun K hK => ?_) | ((with_reducible refine hK _ ?_); clear hK)))
        (with_reducible refine Qs fun K E hK hE => ?_)
        (try simp only [QnW]); refine Qz 4 (fun K1 hK1 => ?_); simp -implicitDefEqProofs only [Qd, Qb, Qg, OpW, aop, undef, AS.ev, Qc, QG, Qi, Qw, Qns, ↓reduceIte, Nat.reduceLT, Nat.reduceEqDiff, aBin, Qnl, Qnm, Qnn, Qnq, Qno, Qnw, QnD, QY, Qnt, d0]; refine hK1 _ ?_; clear hK1
        (try simp only [Qnu, QnC]); refine Qz 4 (fun K1 hK1 => ?_); simp -implicitDefEqProofs only [Qd, Qb, Qg, OpW, aop, undef, AS.ev, Qc, QG, Qi, Qw, Qns, ↓reduceIte, Nat.reduceLT, Nat.reduceEqDiff, aBin, Qnl, Qnm, Qnn, Qnq, Qno, Qnw, QnD, QY, Qnt, Qnp, d1]; refine hK1 _ ?_; clear hK1
        (try simp only [Qnu, QnC]); refine Qz 4 (fun K1 hK1 => ?_); simp -implicitDefEqProofs only [Qd, Qb, Qg, OpW, aop, undef, AS.ev, Qc, QG, Qi, QnI, ↓reduceIte, Nat.reduceLT, Nat.reduceEqDiff, aBin, Qnl, Qnm, Qnn, Qnq, Qno, Qnw, QnD, QY, Qnt, Qnp, beq_false, d2]; refine hK1 _ ?_; clear hK1
        (try simp only [Qnu, QnC]); refine Qz 4 (fun K1 hK1 => ?_); simp -implicitDefEqProofs only [Qd, Qb, Qg, OpW, aop, undef, AS.ev, Qc, Qr, Qi, QnI, ↓reduceIte, Nat.reduceLT, Nat.reduceEqDiff, Qnl, Qnm, Qnq, Qno, Qnw, QnD, beq_false]; refine hK1 _ ?_; clear hK1
        (try simp only [Qnu, QnC])
        simp -implicitDefEqProofs only [Qd, Qb, Qg, OpW, aop, undef, AS.ev, Qc, Qr, Qi, QnI, ↓reduceIte, Nat.reduceLT, Nat.reduceEqDiff, Qnl, Qnm, Qnq, Qno, beq_false]
        repeat (first | (with_reducible (first | refine Ql ?_ | refine Qj ?_)) | ((with_reducible refine hK _ ?_); clear hK))
        simp only [QI, Qm, Qu, upd, ↓reduceIte, Qnr, Qnv]; first | refine Qf (htake _ _) (.keep (.v _)) ⟨by simp only [opB, d0, d1, d2, Bool.or_false, Bool.or_true, Bool.true_or], rfl⟩ | refine Qf List.take_length (.keep (.v _)) ⟨by simp only [opB, d0, d1, d2, Bool.or_false, Bool.or_true, Bool.true_or], rfl⟩
      | false =>
        cases d3 : (s.toList == ({ data := #[47] } : ByteArray).toList) with
        | true =>
          refine Qe Tryz.func103 rfl Tryz.call103 Tryz.ntmps103 (congrArg Array.toList Tryz.results103) (by simp) ?_
          iterate 3 (try (first | (((with_reducible refine Qa fun K E hK hE => ?_)); simp -implicitDefEqProofs only [Qd, Qb, Qg, OpW, aop, AS.ev, Qc, Qr, Nat.reduceLT]) | (with_reducible refine Qh fun K hK => ?_) | ((with_reducible refine hK _ ?_); clear hK)))
          (with_reducible refine Qs fun K E hK hE => ?_)
          (try simp only [QnW]); refine Qz 4 (fun K1 hK1 => ?_); simp -implicitDefEqProofs only [Qd, Qb, Qg, OpW, aop, undef, AS.ev, Qc, QG, Qi, Qw, Qns, ↓reduceIte, Nat.reduceLT, Nat.reduceEqDiff, aBin, Qnl, Qnm, Qnn, Qnq, Qno, Qnw, QnD, QY, Qnt, d0]; refine hK1 _ ?_; clear hK1
          (try simp only [Qnu, QnC]); refine Qz 4 (fun K1 hK1 => ?_); simp -implicitDefEqProofs only [Qd, Qb, Qg, OpW, aop, undef, AS.ev, Qc, QG, Qi, Qw, Qns, ↓reduceIte, Nat.reduceLT, Nat.reduceEqDiff, aBin, Qnl, Qnm, Qnn, Qnq, Qno, Qnw, QnD, QY, Qnt, Qnp, d1]; refine hK1 _ ?_; clear hK1
          (try simp only [Qnu, QnC]); refine Qz 4 (fun K1 hK1 => ?_); simp -implicitDefEqProofs only [Qd, Qb, Qg, OpW, aop, undef, AS.ev, Qc, QG, Qi, Qw, Qns, ↓reduceIte, Nat.reduceLT, Nat.reduceEqDiff, aBin, Qnl, Qnm, Qnn, Qnq, Qno, Qnw, QnD, QY, Qnt, Qnp, d2]; refine hK1 _ ?_; clear hK1
          (try simp only [Qnu, QnC]); refine Qz 4 (fun K1 hK1 => ?_); simp -implicitDefEqProofs only [Qd, Qb, Qg, OpW, aop, undef, AS.ev, Qc, QG, Qi, QnI, ↓reduceIte, Nat.reduceLT, Nat.reduceEqDiff, aBin, Qnl, Qnm, Qnn, Qnq, Qno, Qnw, QnD, QY, Qnt, Qnp, beq_false, d3]; refine hK1 _ ?_; clear hK1
          (try simp only [Qnu, QnC])
          simp -implicitDefEqProofs only [Qd, Qb, Qg, OpW, aop, undef, AS.ev, Qc, Qr, Qi, QnI, ↓reduceIte, Nat.reduceLT, Nat.reduceEqDiff, Qnl, Qnm, Qnq, Qno, beq_false]
          repeat (first | (with_reducible (first | refine Ql ?_ | refine Qj ?_)) | ((with_reducible refine hK _ ?_); clear hK))
          simp only [QI, Qm, Qu, upd, ↓reduceIte, Qnr, Qnv]; first | refine Qf (htake _ _) (.keep (.v _)) ⟨by simp only [opB, d0, d1, d2, d3, Bool.or_false, Bool.or_true, Bool.true_or], rfl⟩ | refine Qf List.take_length (.keep (.v _)) ⟨by simp only [opB, d0, d1, d2, d3, Bool.or_false, Bool.or_true, Bool.true_or], rfl⟩
        | false =>
          cases d4 : (s.toList == ({ data := #[37] } : ByteArray).toList) with
          | true =>
            refine Qe Tryz.func103 rfl Tryz.call103 Tryz.ntmps103 (congrArg Array.toList Tryz.results103) (by simp) ?_
            iterate 3 (try (first | (((with_reducible refine Qa fun K E hK hE => ?_)); simp -implicitDefEqProofs only [Qd, Qb, Qg, OpW, aop, AS.ev, Qc, Qr, Nat.reduceLT]) | (with_reducible refine Qh fun K hK => ?_) | ((with_reducible refine hK _ ?_); clear hK)))
            (with_reducible refine Qs fun K E hK hE => ?_)
            (try simp only [QnW]); refine Qz 4 (fun K1 hK1 => ?_); simp -implicitDefEqProofs only [Qd, Qb, Qg, OpW, aop, undef, AS.ev, Qc, QG, Qi, Qw, Qns, ↓reduceIte, Nat.reduceLT, Nat.reduceEqDiff, aBin, Qnl, Qnm, Qnn, Qnq, Qno, Qnw, QnD, QY, Qnt, d0]; refine hK1 _ ?_; clear hK1
            (try simp only [Qnu, QnC]); refine Qz 4 (fun K1 hK1 => ?_); simp -implicitDefEqProofs only [Qd, Qb, Qg, OpW, aop, undef, AS.ev, Qc, QG, Qi, Qw, Qns, ↓reduceIte, Nat.reduceLT, Nat.reduceEqDiff, aBin, Qnl, Qnm, Qnn, Qnq, Qno, Qnw, QnD, QY, Qnt, Qnp, d1]; refine hK1 _ ?_; clear hK1
            (try simp only [Qnu, QnC]); refine Qz 4 (fun K1 hK1 => ?_); simp -implicitDefEqProofs only [Qd, Qb, Qg, OpW, aop, undef, AS.ev, Qc, QG, Qi, Qw, Qns, ↓reduceIte, Nat.reduceLT, Nat.reduceEqDiff, aBin, Qnl, Qnm, Qnn, Qnq, Qno, Qnw, QnD, QY, Qnt, Qnp, d2]; refine hK1 _ ?_; clear hK1
            (try simp only [Qnu, QnC]); refine Qz 4 (fun K1 hK1 => ?_); simp -implicitDefEqProofs only [Qd, Qb, Qg, OpW, aop, undef, AS.ev, Qc, QG, Qi, Qw, Qns, ↓reduceIte, Nat.reduceLT, Nat.reduceEqDiff, aBin, Qnl, Qnm, Qnn, Qnq, Qno, Qnw, QnD, QY, Qnt, Qnp, d3]; refine hK1 _ ?_; clear hK1
            (try simp only [Qnu, QnC])
            simp -implicitDefEqProofs only [Qd, Qb, Qg, OpW, aop, AS.ev, Qc, QG, Qi, ↓reduceIte, Nat.reduceLT, Nat.reduceEqDiff, aBin, Qnl, Qnm, Qnn, Qnq, Qno, QY, Qnt, Qnp, d4]
            repeat (first | (with_reducible (first | refine Ql ?_ | refine Qj ?_)) | ((with_reducible refine hK _ ?_); clear hK))
            simp only [QI, Qm, Qu, upd, ↓reduceIte, Qnr, Qnv]; first | refine Qf (htake _ _) (.keep (.v _)) ⟨by simp only [opB, d0, d1, d2, d3, d4, Bool.or_false, Bool.or_true], rfl⟩ | refine Qf List.take_length (.keep (.v _)) ⟨by simp only [opB, d0, d1, d2, d3, d4, Bool.or_false, Bool.or_true], rfl⟩
          | false =>
            refine Qe Tryz.func103 rfl Tryz.call103 Tryz.ntmps103 (congrArg Array.toList Tryz.results103) (by simp) ?_
            iterate 3 (try (first | (((with_reducible refine Qa fun K E hK hE => ?_)); simp -implicitDefEqProofs only [Qd, Qb, Qg, OpW, aop, AS.ev, Qc, Qr, Nat.reduceLT]) | (with_reducible refine Qh fun K hK => ?_) | ((with_reducible refine hK _ ?_); clear hK)))
            (with_reducible refine Qs fun K E hK hE => ?_)
            (try simp only [QnW]); refine Qz 4 (fun K1 hK1 => ?_); simp -implicitDefEqProofs only [Qd, Qb, Qg, OpW, aop, undef, AS.ev, Qc, QG, Qi, Qw, Qns, ↓reduceIte, Nat.reduceLT, Nat.reduceEqDiff, aBin, Qnl, Qnm, Qnn, Qnq, Qno, Qnw, QnD, QY, Qnt, d0]; refine hK1 _ ?_; clear hK1
            (try simp only [Qnu, QnC]); refine Qz 4 (fun K1 hK1 => ?_); simp -implicitDefEqProofs only [Qd, Qb, Qg, OpW, aop, undef, AS.ev, Qc, QG, Qi, Qw, Qns, ↓reduceIte, Nat.reduceLT, Nat.reduceEqDiff, aBin, Qnl, Qnm, Qnn, Qnq, Qno, Qnw, QnD, QY, Qnt, Qnp, d1]; refine hK1 _ ?_; clear hK1
            (try simp only [Qnu, QnC]); refine Qz 4 (fun K1 hK1 => ?_); simp -implicitDefEqProofs only [Qd, Qb, Qg, OpW, aop, undef, AS.ev, Qc, QG, Qi, Qw, Qns, ↓reduceIte, Nat.reduceLT, Nat.reduceEqDiff, aBin, Qnl, Qnm, Qnn, Qnq, Qno, Qnw, QnD, QY, Qnt, Qnp, d2]; refine hK1 _ ?_; clear hK1
            (try simp only [Qnu, QnC]); refine Qz 4 (fun K1 hK1 => ?_); simp -implicitDefEqProofs only [Qd, Qb, Qg, OpW, aop, undef, AS.ev, Qc, QG, Qi, Qw, Qns, ↓reduceIte, Nat.reduceLT, Nat.reduceEqDiff, aBin, Qnl, Qnm, Qnn, Qnq, Qno, Qnw, QnD, QY, Qnt, Qnp, d3]; refine hK1 _ ?_; clear hK1
            (try simp only [Qnu, QnC])
            simp -implicitDefEqProofs only [Qd, Qb, Qg, OpW, aop, AS.ev, Qc, QG, Qi, ↓reduceIte, Nat.reduceLT, Nat.reduceEqDiff, aBin, Qnl, Qnm, Qnn, Qnq, Qno, QY, Qnt, Qnp, d4]
            repeat (first | (with_reducible (first | refine Ql ?_ | refine Qj ?_)) | ((with_reducible refine hK _ ?_); clear hK))
            simp only [QI, Qm, Qu, upd, ↓reduceIte, Qnr, Qnv]; first | refine Qf (htake _ _) (.keep (.v _)) ⟨by simp only [opB, d0, d1, d2, d3, d4, Bool.or_false], rfl⟩ | refine Qf List.take_length (.keep (.v _)) ⟨by simp only [opB, d0, d1, d2, d3, d4, Bool.or_false], rfl⟩
theorem Qmf : ∀ n : Fin 256, decide (0 ≤ Lib.indexByte [43, 45, 42, 47, 37] (UInt8.ofNat n.val)) = (([UInt8.ofNat n.val] == [43]) || ([UInt8.ofNat n.val] == [45]) || ([UInt8.ofNat n.val] == [42]) || ([UInt8.ofNat n.val] == [47]) || ([UInt8.ofNat n.val] == [37])) := by decide +kernel
theorem Qmz (c : UInt8) : decide (0 ≤ Lib.indexByte [43, 45, 42, 47, 37] c) = opB { data := #[c] } := by
  have := Qmf ⟨c.toNat, c.toNat_lt⟩
  simp only [UInt8.ofNat_toNat] at this
  rw [this, opB]
  simp only [Lib.toList_data]
theorem Qfw (c : UInt8) : Pure Tryz.prog 124 [.v (.string { data := #[43, 45, 42, 47, 37] }), .v (.string { data := #[c] })] (.b (opB { data := #[c] })) := by
  rw [← Qmz]
  exact QfN (vs := [.string { data := #[43, 45, 42, 47, 37] }, .string { data := #[c] }]) Tryz.call124 fun w => (Tryz.strings_Contains_one _ c w).mono (by rintro e w' ⟨rfl, rfl⟩; exact ⟨_, rfl, Go.RowKit.Below.refl _ _, fun _ => .v _⟩)
theorem one_byte {s : ByteArray} (h : s.size = 1) : ∃ c, s = { data := #[c] } := by
  obtain ⟨⟨l⟩⟩ := s
  match l, h with
  | [c], _ => exact ⟨c, rfl⟩
theorem QdM {s : ByteArray} (h : s.size ≠ 1) : opB s = false := by
  have : ∀ c : UInt8, (s.toList == [c]) = false := fun c => by
    rw [Lib.toList_data, beq_eq_false_iff_ne]
    intro e
    exact h (by rw [Lib.size_eq, e]; rfl)
  have t : ∀ c : UInt8, ({ data := #[c] } : ByteArray).toList = [c] := fun c => Lib.toList_data _
  simp only [opB, t, this, Bool.or_false]
theorem QfR (s : ByteArray) : Pure Tryz.prog 108 [.v (.string s)] (.b (opB s)) := by
  intro h
  have hsl := fun b => YB Tryz.prog 9 3 (by kernel_rfl) b
  by_cases n1 : s.size = 1
  · have m1 : ((s.size : Int) == 1) = true := by simp [n1]
    obtain ⟨c, rfl⟩ := one_byte n1
    have cc := Qfw c
    refine Qe Tryz.func108 rfl Tryz.call108 Tryz.ntmps108 (congrArg Array.toList Tryz.results108) (by simp) ?_
    repeat (first | ((first | (with_reducible (first | refine Qa fun K E hK hE => ?_ | refine Qo cc ?_))); simp -implicitDefEqProofs only [Qd, Qb, Qg, OpW, QO, aop, undef, AS.ev, Qc, Qn, Qr, QG, Qi, Qw, Qns, ↓reduceIte, Nat.reduceLT, Nat.reduceEqDiff, aBin, aLen, Qnl, Qnm, Qnn, Qnq, Qno, QnA, QnE, QS, goInt, Qnt, hsl, m1]) | (with_reducible refine Ql ?_) | ((with_reducible refine hK _ ?_); clear hK))
    simp only [QI, Qm, Qu, upd, ↓reduceIte, Qnr, Qnv]; first | refine Qf (htake _ _) (.keep (.v _)) ⟨rfl, rfl⟩ | refine Qf List.take_length (.keep (.v _)) ⟨rfl, rfl⟩
  · have m1 : ((s.size : Int) == 1) = false := by simp; omega
    refine Qe Tryz.func108 rfl Tryz.call108 Tryz.ntmps108 (congrArg Array.toList Tryz.results108) (by simp) ?_
    repeat (first | (((with_reducible refine Qa fun K E hK hE => ?_)); simp -implicitDefEqProofs only [Qd, Qb, Qg, OpW, aop, undef, AS.ev, Qc, Qn, Qr, Qi, Qw, Qns, ↓reduceIte, Nat.reduceLT, Nat.reduceEqDiff, aBin, aLen, Qnl, Qnm, Qnn, Qnq, Qno, QS, goInt, Qnp, beq_true, hsl, m1]) | (with_reducible refine Ql ?_) | ((with_reducible refine hK _ ?_); clear hK))
    simp only [QI, Qm, Qu, upd, ↓reduceIte, Qnr, Qnv]; first | refine Qf (htake _ _) (.keep (.v _)) ⟨by rw [QdM n1], rfl⟩ | refine Qf List.take_length (.keep (.v _)) ⟨by rw [QdM n1], rfl⟩
def begV (s : ByteArray) : Bool := decide (1 ≤ s.size ∧ byteAt s 0 = 86)
theorem QkW (s : ByteArray) (h : 1 ≤ s.size) : ((s.extract 0 1).toList == ({ data := #[86] } : ByteArray).toList) = begV s := by
  rw [Lib.extract_toList, Lib.toList_data, begV]
  simp only [QnC, Nat.sub_zero]
  have hl : s.data.toList.length = s.size := (Lib.size_eq s).symm
  unfold byteAt
  match hx : s.data.toList, hl with
  | [], hl => simp at hl; omega
  | c :: l, hl =>
    simp only [Qnw, QnD, Qns]
    by_cases hc : c = 86
    · subst hc; simp; omega
    · have : ¬ ((c.toNat : Nat) : Int) = 86 := fun e => hc (by
        have e' : c.toNat = (86 : UInt8).toNat := by simpa using (by omega : c.toNat = 86)
        exact UInt8.toNat_inj.1 e')
      simp [hc, this]
theorem Qe4 (s : ByteArray) : Pure Tryz.prog 149 [.v (.string s), .v (.string { data := #[86] })] (.b (begV s)) := by
  intro h
  have hsl := fun b => YB Tryz.prog 9 3 (by kernel_rfl) b
  have z1 : (({ data := #[86] } : ByteArray).size : Int) = 1 := rfl
  by_cases n1 : 1 ≤ s.size
  · have m1 : (s.size : Int) ≥ 1 := by omega
    have hp : pv Tryz.prog (Instr.sliceAt 9 (.string s) none (some (.int .i64 1)) none) = some (.string (s.extract 0 1)) :=
      QbZ Tryz.prog 9 (by kernel_rfl) s none (some (.i64, 1)) 0 1 ⟨by omega, by omega, rfl⟩ rfl
    have hz := QkW s n1
    refine Qe Tryz.func149 rfl Tryz.call149 Tryz.ntmps149 (congrArg Array.toList Tryz.results149) (by simp) ?_
    repeat (first | (((with_reducible refine Qa fun K E hK hE => ?_)); simp -implicitDefEqProofs only [Qd, Qb, Qg, OpW, aop, undef, AS.ev, Qc, Qr, Qi, Qw, Qns, QnL, ↓reduceIte, Nat.reduceLT, Nat.reduceEqDiff, aBin, Yx, aLen, Qnl, Qnm, Qnn, Qn0, Qnq, Qno, XD, QY, goInt, QnR, Qnt, ei9, hsl, z1, m1, hp, hz]) | (with_reducible refine Ql ?_) | ((with_reducible refine hK _ ?_); clear hK))
    simp only [QI, Qm, Qu, upd, ↓reduceIte, Qnr, Qnv]; first | refine Qf (htake _ _) (.keep (.v _)) ⟨rfl, rfl⟩ | refine Qf List.take_length (.keep (.v _)) ⟨rfl, rfl⟩
  · have m1 : ¬ (s.size : Int) ≥ 1 := by omega
    refine Qe Tryz.func149 rfl Tryz.call149 Tryz.ntmps149 (congrArg Array.toList Tryz.results149) (by simp) ?_
    repeat (first | (((with_reducible refine Qa fun K E hK hE => ?_)); simp -implicitDefEqProofs only [Qd, Qb, Qg, OpW, aop, undef, AS.ev, Qc, Qr, Qi, Qw, Qns, QnL, ↓reduceIte, Nat.reduceLT, Nat.reduceEqDiff, aBin, aLen, Qnl, Qnm, Qnn, Qnq, Qno, XD, goInt, QnS, Qnp, beq_true, hsl, z1, m1]) | (with_reducible refine Ql ?_) | ((with_reducible refine hK _ ?_); clear hK))
    simp only [QI, Qm, Qu, upd, ↓reduceIte, Qnr, Qnv]; first | refine Qf (htake _ _) (.keep (.v _)) ⟨by rw [begV, decide_eq_false (fun h => n1 h.1)], rfl⟩ | refine Qf List.take_length (.keep (.v _)) ⟨by rw [begV, decide_eq_false (fun h => n1 h.1)], rfl⟩
def cutV (s : ByteArray) : ByteArray := if begV s = true then s.extract 1 s.size else s
theorem Qeo (s : ByteArray) : Pure Tryz.prog 136 [.v (.string s), .v (.string { data := #[86] })] (.tup [.v (.string (cutV s)), .b (begV s)]) := by
  intro h
  have hsl := fun b => YB Tryz.prog 9 3 (by kernel_rfl) b
  have z1 : (({ data := #[86] } : ByteArray).size : Int) = 1 := rfl
  have c := Qe4 s
  cases hb : begV s with
  | true =>
    rw [hb] at c
    have hn : 1 ≤ s.size := by simp only [begV, decide_eq_true_eq] at hb; exact hb.1
    have hp : pv Tryz.prog (Instr.sliceAt 9 (.string s) (some (.int .i64 1)) none none) = some (.string (s.extract 1 s.size)) := QdR Tryz.prog 9 (by kernel_rfl) s 1 hn
    refine Qe Tryz.func136 rfl Tryz.call136 Tryz.ntmps136 (congrArg Array.toList Tryz.results136) (by simp) ?_
    repeat (first | ((first | (with_reducible (first | refine Qa fun K E hK hE => ?_ | refine Qo c ?_))); simp -implicitDefEqProofs only [Qd, Qb, Qg, OpW, QO, aop, undef, AS.ev, Qc, Qr, QG, Qi, Qw, Qns, QnL, QnI, ↓reduceIte, Nat.reduceLT, Nat.reduceEqDiff, Yx, aLen, Qnn, Qn0, QnA, QnE, Xa, goInt, ei9, hsl, z1, hp]) | (with_reducible (first | refine Qh fun K hK => ?_ | refine Ql ?_ | refine QA ?_ | refine Qj ?_)) | ((with_reducible refine hK _ ?_); clear hK) | (refine Qk rfl ?_; simp only [↓reduceIte, Qnp]))
    simp -implicitDefEqProofs only [Qi, ↓reduceIte, Nat.reduceEqDiff, Qnn, Qnq, Qnr, List.mapM_cons, List.mapM_nil, Option.pure_def, Option.bind_eq_bind, QI, Qm, Qu, Qnv]
    exact Qf List.take_length (.tup rfl (Xt (.keep (.v _)) (Ys (.keep (.v _))))) ⟨by rw [cutV, if_pos hb], rfl⟩
  | false =>
    rw [hb] at c
    refine Qe Tryz.func136 rfl Tryz.call136 Tryz.ntmps136 (congrArg Array.toList Tryz.results136) (by simp) ?_
    repeat (first | ((first | (with_reducible (first | refine Qa fun K E hK hE => ?_ | refine Qo c ?_))); simp -implicitDefEqProofs only [Qd, Qb, Qg, OpW, QO, aop, undef, AS.ev, Qc, Qr, QG, Qi, Qw, Qns, QnL, QnJ, ↓reduceIte, Nat.reduceLT, Nat.reduceEqDiff, Qnn, QnA, QnE, Xa]) | (with_reducible (first | refine Qh fun K hK => ?_ | refine Ql ?_ | refine Qy ?_)) | ((with_reducible refine hK _ ?_); clear hK) | (refine Qk rfl ?_; simp only [↓reduceIte]))
    simp -implicitDefEqProofs only [Qi, ↓reduceIte, Nat.reduceEqDiff, Qnn, Qnq, Qnr, List.mapM_cons, List.mapM_nil, Option.pure_def, Option.bind_eq_bind, QI, Qm, Qu, Qnv]
    exact Qf List.take_length (.tup rfl (Xt (.keep (.v _)) (Ys (.keep (.v _))))) ⟨by rw [cutV, if_neg (by rw [hb]; simp)], rfl⟩
theorem Z7 (s : ByteArray) : Pure Tryz.prog 118 [.v (.string s), .v (.string { data := #[86] })] (.tup [.v (.string (cutV s)), .b (begV s)]) := by
  intro h
  have c := Qeo s
  refine Qe Tryz.func118 rfl Tryz.call118 Tryz.ntmps118 (congrArg Array.toList Tryz.results118) (by simp) ?_
  repeat (first | ((first | (with_reducible (first | refine Qa fun K E hK hE => ?_ | refine Qo c ?_))); simp -implicitDefEqProofs only [Qd, Qb, Qg, OpW, QO, aop, undef, AS.ev, Qc, Qr, QG, Qi, Qw, Qns, QnL, ↓reduceIte, Nat.reduceLT, Nat.reduceEqDiff, XB, Qnl, Qnm, Qnn, QnA, QnE]) | (with_reducible refine Ql ?_) | ((with_reducible refine hK _ ?_); clear hK))
  simp -implicitDefEqProofs only [Qi, ↓reduceIte, Nat.reduceEqDiff, Qnn, Qnq, Qnr, List.mapM_cons, List.mapM_nil, Option.pure_def, Option.bind_eq_bind, QI, Qm, Qu, Qnv]
  exact Qf List.take_length (.tup rfl (Xt (.keep (.v _)) (Ys (.keep (.v _))))) ⟨rfl, rfl⟩
def vOf (t : ByteArray) : ByteArray := ({ data := #[86] } : ByteArray) ++ t
theorem Qlx (n : Int) (h0 : 0 ≤ n) (h1 : n ≤ 1048576) (t : ByteArray) (ht : t.size ≤ 1000) (h : AH) (H : Xd Tryz.prog 72 [.i n] h fun o h' => o = .ret (.v (.string t)) ∧ h' = h) : Xd Tryz.prog 73 [.i n] h fun o h' => o = .ret (.v (.string (vOf t))) ∧ h' = h := by
  have m0 : ¬ n < 0 := by omega
  have m1 : ¬ n > 1048576 := by omega
  have hsa := fun xo yo => Xv Tryz.prog 9 xo yo ({ data := #[86] } : ByteArray) t (by show 1 + t.size ≤ _; omega)
  refine Qe Tryz.func73 rfl Tryz.call73 Tryz.ntmps73 (congrArg Array.toList Tryz.results73) (by simp) ?_
  repeat (first | ((first | (with_reducible (first | refine Qa fun K E hK hE => ?_ | refine FunW.ret (FunW.call H) ?_))); simp -implicitDefEqProofs only [Qd, Qb, Qg, OpW, QO, aop, undef, AS.ev, Qc, Qn, QG, Qi, Qw, Qns, ↓reduceIte, Nat.reduceLT, Nat.reduceEqDiff, aBin, Qnl, Qnm, Qnn, Qnq, Qno, QnA, QnE, Q0, Xg, QnS, Qnt, Qnp, m0, m1, hsa]) | (with_reducible (first | refine Qh fun K hK => ?_ | refine Ql ?_ | refine QA ?_ | refine Qj ?_)) | ((with_reducible refine hK _ ?_); clear hK) | (refine Qk rfl ?_; simp only [↓reduceIte, Qnp]))
  simp only [QI, Qm, Qu, upd, ↓reduceIte, Qnr, Qnv]; first | refine Qf (htake _ _) (.keep (.v _)) ⟨rfl, rfl⟩ | refine Qf List.take_length (.keep (.v _)) ⟨rfl, rfl⟩
theorem QlJ (n : Int) (hn : n < 0 ∨ n > 1048576) : Pure Tryz.prog 73 [.i n] (.v (.string { data := #[] })) := by
  intro h
  by_cases m0 : n < 0
  · refine Qe Tryz.func73 rfl Tryz.call73 Tryz.ntmps73 (congrArg Array.toList Tryz.results73) (by simp) ?_
    repeat (first | (((with_reducible refine Qa fun K E hK hE => ?_)); simp -implicitDefEqProofs only [Qd, Qb, Qg, OpW, aop, undef, AS.ev, Qc, Qn, Qr, QG, Qi, Qw, Qns, QnI, ↓reduceIte, Nat.reduceLT, Nat.reduceEqDiff, aBin, Qnl, Qnm, Qnn, Qnq, Qno, Q0, QnR, beq_false, m0]) | (with_reducible (first | refine Qh fun K hK => ?_ | refine Ql ?_ | refine Qy ?_)) | ((with_reducible refine hK _ ?_); clear hK) | (refine Qk rfl ?_; simp only [↓reduceIte]))
    simp only [QI, Qm, Qu, upd, ↓reduceIte, Qnr, Qnv]; first | refine Qf (htake _ _) (.keep (.v _)) ⟨rfl, rfl⟩ | refine Qf List.take_length (.keep (.v _)) ⟨rfl, rfl⟩
  · have m1 : n > 1048576 := by omega
    refine Qe Tryz.func73 rfl Tryz.call73 Tryz.ntmps73 (congrArg Array.toList Tryz.results73) (by simp) ?_
    repeat (first | (((with_reducible refine Qa fun K E hK hE => ?_)); simp -implicitDefEqProofs only [Qd, Qb, Qg, OpW, aop, undef, AS.ev, Qc, Qn, QG, Qi, Qw, Qns, ↓reduceIte, Nat.reduceLT, Nat.reduceEqDiff, aBin, Qnl, Qnm, Qnn, Qnq, Qno, Q0, Xg, QnR, QnS, Qnt, Qnp, m0, m1]) | (with_reducible (first | refine Qh fun K hK => ?_ | refine Ql ?_ | refine Qy ?_)) | ((with_reducible refine hK _ ?_); clear hK) | (refine Qk rfl ?_; simp only [↓reduceIte]))
    simp only [QI, Qm, Qu, upd, ↓reduceIte, Qnr, Qnv]; first | refine Qf (htake _ _) (.keep (.v _)) ⟨rfl, rfl⟩ | refine Qf List.take_length (.keep (.v _)) ⟨rfl, rfl⟩
theorem Qgl (s : ByteArray) (hb : begV s = false ∨ (cutV s).size > 7) : Pure Tryz.prog 94 [.v (.string s)] (.tup [.i 0, .b false]) := by
  intro h
  have hsl := fun b => YB Tryz.prog 9 3 (by kernel_rfl) b
  have c := Z7 s
  cases hv : begV s with
  | false =>
    rw [hv] at c
    refine Qe Tryz.func94 rfl Tryz.call94 Tryz.ntmps94 (congrArg Array.toList Tryz.results94) (by simp) ?_
    repeat (first | ((first | (with_reducible (first | refine Qa fun K E hK hE => ?_ | refine Qo c ?_))); simp -implicitDefEqProofs only [Qd, Qb, Qg, OpW, QO, aop, undef, AS.ev, Qc, Qn, Qr, QG, Qi, Qw, Qns, QnI, QnJ, ↓reduceIte, Nat.reduceLT, Nat.reduceEqDiff, XB, Qnl, Qnm, Qnn, Qnq, Qno, QnA, QnE, Xa, beq_false]) | (with_reducible (first | refine Qh fun K hK => ?_ | refine Ql ?_ | refine Qy ?_)) | ((with_reducible refine hK _ ?_); clear hK) | (refine Qk rfl ?_; simp only [↓reduceIte]))
    simp -implicitDefEqProofs only [Qi, ↓reduceIte, Nat.reduceEqDiff, Qnn, Qnq, Qnr, List.mapM_cons, List.mapM_nil, Option.pure_def, Option.bind_eq_bind, QI, Qm, Qu, Qnv]
    exact Qf List.take_length (.tup rfl (Xt (.keep (.v _)) (Ys (.keep (.v _))))) ⟨rfl, rfl⟩
  | true =>
    rw [hv] at c
    have m1 : ((cutV s).size : Int) > 7 := by
      rcases hb with h | h
      · rw [hv] at h; cases h
      · omega
    refine Qe Tryz.func94 rfl Tryz.call94 Tryz.ntmps94 (congrArg Array.toList Tryz.results94) (by simp) ?_
    repeat (first | ((first | (with_reducible (first | refine Qa fun K E hK hE => ?_ | refine Qo c ?_))); simp -implicitDefEqProofs only [Qd, Qb, Qg, OpW, QO, aop, undef, AS.ev, Qc, Qn, Qr, QG, Qi, Qw, Qns, QnI, ↓reduceIte, Nat.reduceLT, Nat.reduceEqDiff, aBin, XB, aLen, Qnl, Qnm, Qnn, Qnq, Qno, QnA, QnE, Xg, Xa, goInt, QnR, Qnt, Qnp, hsl, m1]) | (with_reducible (first | refine Qh fun K hK => ?_ | refine Ql ?_ | refine Qy ?_)) | ((with_reducible refine hK _ ?_); clear hK) | (refine Qk rfl ?_; simp only [↓reduceIte]))
    simp -implicitDefEqProofs only [Qi, ↓reduceIte, Nat.reduceEqDiff, Qnn, Qnq, Qnr, List.mapM_cons, List.mapM_nil, Option.pure_def, Option.bind_eq_bind, QI, Qm, Qu, Qnv]
    exact Qf List.take_length (.tup rfl (Xt (.keep (.v _)) (Ys (.keep (.v _))))) ⟨rfl, rfl⟩
theorem Qmh (xo : Operand) : pv Tryz.prog (do eqGuard .neq 63 xo (.const .nilIface) .nilIface .nilIface; binOp .neq 63 .nilIface .nilIface) = some (.bool false) := by
  cases xo <;> kernel_rfl
theorem QgY (s : ByteArray) (hb : begV s = true) (hn : (cutV s).size ≤ 7) (v : Int) (h : AH) (H : Xd Tryz.prog 119 [.v (.string (cutV s))] h fun o h' => o = .ret (.tup [.i v, .v .nilIface]) ∧ h' = h)
    (t : ByteArray) (HL : Xd Tryz.prog 73 [.i v] h fun o h' => o = .ret (.v (.string t)) ∧ h' = h) :
    Xd Tryz.prog 94 [.v (.string s)] h fun o h' => o = .ret (if (t.toList == s.toList) = true then .tup [.i v, .b true] else .tup [.i 0, .b false]) ∧ h' = h := by
  have hsl := fun b => YB Tryz.prog 9 3 (by kernel_rfl) b
  have hnn : ∀ xo, pv Tryz.prog (do eqGuard .neq 63 xo (.const .nilIface) .nilIface .nilIface; binOp .neq 63 .nilIface .nilIface) = some (.bool false) := Qmh
  have c := Z7 s
  rw [hb] at c
  have m1 : ¬ ((cutV s).size : Int) > 7 := by omega
  cases ht : (t.toList == s.toList) with
  | true =>
    rw [if_pos rfl]
    refine Qe Tryz.func94 rfl Tryz.call94 Tryz.ntmps94 (congrArg Array.toList Tryz.results94) (by simp) ?_
    repeat (first | ((first | (with_reducible (first | refine Qa fun K E hK hE => ?_ | refine Qo c ?_ | refine FunW.ret (FunW.call H) ?_ | refine FunW.ret (FunW.call HL) ?_))); simp -implicitDefEqProofs only [Qd, Qb, Qg, OpW, QO, aop, undef, AS.ev, Qc, Qn, Qr, QG, Xz, Qi, Qw, Qns, QnI, ↓reduceIte, Nat.reduceLT, Nat.reduceEqDiff, aBin, XB, aLen, Qnl, Qnm, Qnn, Qnq, Qno, QnA, QnE, Xg, Xa, Qa4, goInt, QnS, Qnt, Qnp, hsl, m1, hnn, ht]) | (with_reducible (first | refine Qh fun K hK => ?_ | refine Ql ?_ | refine QA ?_ | refine Qj ?_)) | ((with_reducible refine hK _ ?_); clear hK) | (refine Qk rfl ?_; simp only [↓reduceIte, Qnp]))
    simp -implicitDefEqProofs only [Qi, ↓reduceIte, Nat.reduceEqDiff, Qnn, Qnq, Qnr, List.mapM_cons, List.mapM_nil, Option.pure_def, Option.bind_eq_bind, QI, Qm, Qu, Qnv]
    exact Qf List.take_length (.tup rfl (Xt (.keep (.v _)) (Ys (.keep (.v _))))) ⟨rfl, rfl⟩
  | false =>
    rw [if_neg (by simp)]
    refine Qe Tryz.func94 rfl Tryz.call94 Tryz.ntmps94 (congrArg Array.toList Tryz.results94) (by simp) ?_
    repeat (first | ((first | (with_reducible (first | refine Qa fun K E hK hE => ?_ | refine Qo c ?_ | refine FunW.ret (FunW.call H) ?_ | refine FunW.ret (FunW.call HL) ?_))); simp -implicitDefEqProofs only [Qd, Qb, Qg, OpW, QO, aop, undef, AS.ev, Qc, Qn, Qr, QG, Xz, Qi, Qw, Qns, QnI, QnJ, ↓reduceIte, Nat.reduceLT, Nat.reduceEqDiff, aBin, XB, aLen, Qnl, Qnm, Qnn, Qnq, Qno, QnA, QnE, Xg, Xa, Qa4, goInt, QnS, Qnt, Qnp, hsl, m1, hnn, ht]) | (with_reducible (first | refine Qh fun K hK => ?_ | refine Ql ?_ | refine QA ?_ | refine Qj ?_ | refine Qy ?_)) | ((with_reducible refine hK _ ?_); clear hK) | (refine Qk rfl ?_; simp only [↓reduceIte, Qnp]))
    simp -implicitDefEqProofs only [Qi, ↓reduceIte, Nat.reduceEqDiff, Qnn, Qnq, Qnr, List.mapM_cons, List.mapM_nil, Option.pure_def, Option.bind_eq_bind, QI, Qm, Qu, Qnv]
    exact Qf List.take_length (.tup rfl (Xt (.keep (.v _)) (Ys (.keep (.v _))))) ⟨rfl, rfl⟩
end Go.Proofs.YtehjodmnajgdgaaGreatDoor.Ab
namespace Go.Proofs.YtehjodmnajgdgaaGreatDoor.Ab
open Go.ChangeShapes Go.WideShapes Go.ChangeAt Go.RowKit
def base0 (W : World) : Cx := ⟨fun _ => none, [], W⟩
theorem Qi4 {W : World} {B o : Nat} (h : B < W.heap.size) : (base0 W).prot B o := ⟨h, fun id b hb => by simp [base0] at hb⟩
theorem QaI {H : Type} {enc : TypeId × Value → H} {P : Program} (hl : laidOutB P = true) {W W' : World} (hb : Go.RowKit.Below W.heap.size W W') {sp : Nat → Bool} :
    ∀ (ts : List TypeId) (vs : List Value) (ds : List (DataW H)) (ps : List MemPlace), (∀ t ∈ ts, P.readableRec t = true ∧ t < P.types.size) → DataW.TrodAll enc P W 0 (fun _ => true) true ts vs ds ps →
      (∀ x ∈ ps, x.block < W.heap.size ∧ sp x.block = true) → DataW.TrodAll enc P W' 0 sp true ts vs ds ps
  | [], vs, ds, ps, _, h, _ => by
    obtain ⟨rfl, rfl, rfl⟩ := trodAll_nil h
    exact trodAll_mk0
  | t :: ts, vs, ds, ps, hp, h, hlt => by
    obtain ⟨v, vs', d, ds', p, q, rfl, rfl, rfl, h1, h2⟩ := trodAll_cons h
    obtain ⟨h3, h4⟩ := hp t (by simp)
    exact trodAll_cons_mk (WideElems.Trod_stays hl h3 h4 h1 (fun x hx => hb.same (hlt x (by simp [hx])).1) (fun x hx => (hlt x (by simp [hx])).2))
      (QaI hl hb ts vs' ds' q (fun t ht => hp t (by simp [ht])) h2 (fun x hx => hlt x (by simp [hx])))
theorem Qc3 {H : Type} {enc : TypeId × Value → H} {P : Program} {W : World} {base : Nat} {sp : Nat → Bool} {held : Bool} :
    ∀ {ts : List TypeId} {vs : List Value} {ds : List (DataW H)} {ps : List MemPlace} {ts' : List TypeId} {vs' : List Value} {ds' : List (DataW H)} {ps' : List MemPlace},
      DataW.TrodAll enc P W base sp held ts vs ds ps → DataW.TrodAll enc P W base sp held ts' vs' ds' ps' → DataW.TrodAll enc P W base sp held (ts ++ ts') (vs ++ vs') (ds ++ ds') (ps ++ ps')
  | [], _, _, _, _, _, _, _, h, h' => by
    obtain ⟨rfl, rfl, rfl⟩ := trodAll_nil h
    exact h'
  | t :: ts, _, _, _, _, _, _, _, h, h' => by
    obtain ⟨v, vs', d, ds', p, q, rfl, rfl, rfl, h1, h2⟩ := trodAll_cons h
    have := trodAll_cons_mk h1 (Qc3 h2 h')
    simpa [List.append_assoc] using this
theorem Qal {H : Type} {enc : TypeId × Value → H} {P : Program} {fn : Func} {s : ChangeSpec} {apart fresh handsOn again : Bool} {W W' : World} {args : Array Value} {ds gs : List (DataW H)} {before : List MemPlace} {tb : TypeId}
    (hl : laidOutB P = true) (hvars : s.vars = []) (hr : fn.resultTypes = #[tb]) (hb : P.underlying tb = some .bool) (hp : ∀ t ∈ fn.params.toList, P.readableRec t = true ∧ t < P.types.size)
    (hW : DataW.Whole enc P fn.params.toList s.vars apart W args.toList ds gs before) (hs : s.fn H (ds ++ gs) = { results := [.lit (.bool true)], args := ds }) (hbel : Go.RowKit.Below W.heap.size W W') :
    s.post enc P fn apart fresh handsOn again W args (.bool true) W' := by
  have hlt : ∀ x ∈ before, x.block < W.heap.size := fun x hx => by simpa using hW.lt x hx
  have hW0 := hW
  obtain ⟨p, q, hA, hV, rfl, hfz, hnd⟩ := hW
  rw [hvars] at hV
  have hV0 := hV
  obtain ⟨rfl, rfl⟩ := trodVars_none hV
  simp only [QnO] at hlt hfz hnd hW0 hs
  have hres : ∀ (b : Nat) (sp : Nat → Bool) (hd : Bool), DataW.TrodAll enc P W' b sp hd fn.resultTypes.toList ((Value.bool true).resultList fn.resultTypes.size) [.lit (.bool true)] [] := fun b sp hd => by
    rw [hr]
    exact trodAll_mk1 (shut_bool hb true)
  have hvs : ∀ sp : Nat → Bool, DataW.TrodVars enc P W' sp s.vars [] [] := fun sp => by rw [hvars]; rfl
  refine ⟨ds, [], p, [], p, [], by simpa using hW0, ?_, ?_, ?_, ?_, fun _ => ⟨?_, ?_⟩⟩
  · rw [List.append_nil, hs]; exact hres _ _ _
  · rw [List.append_nil, hs]
    exact QaI hl hbel _ _ _ _ hp hA fun x hx => ⟨hlt x hx, by simpa using hlt x hx⟩
  · rw [List.append_nil, hs]; exact hvs _
  · exact hbel.frame _
  · intro j t r hj hv
    rw [hr] at hj hv
    match j, hj, hv with
    | 0, hj, hv =>
      simp only [Qno, Qnl, Qnr] at hj
      have hv' : r = .bool true := by
        have : (some (Value.bool true)) = some r := hv
        cases this; rfl
      subst hj; subst hv'
      exact okWide_bool_mk hb true
    | j + 1, hj, hv => simp at hj
  · have hA' := QaI (sp := fun _ => true) hl hbel _ _ _ _ hp hA fun x hx => ⟨hlt x hx, rfl⟩
    refine ⟨_, [], [] ++ p, ⟨[] ++ p, [], Qc3 (hres 0 _ true) hA', hvs _, by simp, ?_, ?_⟩, ?_⟩
    · intro b off hm
      have hm' : MemPlace.cell b off ∈ p := by simpa using hm
      exact (hbel.frozen (p := ⟨b, off, none⟩) (hlt _ hm')).trans (hfz b off hm')
    · intro ha
      simpa using hnd ha
    · intro x hx _
      simpa using hx
theorem Qgm {P : Program} {w : World} {r : Reach} {b : Nat} {t : TypeId} {fs : Array Field} {v : Value} (ht : P.underlying t = some (.struct fs)) (hv : Value.okWide P w r b t v) : ∃ cs, v = .agg cs := by
  simp only [Value.okWide, ht] at hv
  obtain ⟨cs, rfl, _⟩ := hv
  exact ⟨cs, rfl⟩
def Reads (W : World) (a : AV) (cs : List Value) : Prop := cs.length = a.cells.length ∧ ∀ (j : Nat) x u, a.cells[j]? = some x → cs[j]? = some u → Rel (base0 W) x u ∧ u.oneCell' = true
theorem Qgk {w : World} {a : Addr} {u : Value} (h : w.cell? a = some u) : a.block < w.heap.size ∧ a.spot = none := by
  unfold World.cell? at h
  cases hb : w.heap[a.block]? with
  | none => simp [hb] at h
  | some o =>
    rw [hb] at h
    refine ⟨(Array.getElem?_eq_some_iff.1 hb).1, ?_⟩
    cases o with
    | cells c _ _ =>
      simp only at h
      split at h
      · cases h
      · rename_i hs
        cases hsp : a.spot with
        | none => rfl
        | some q => rw [hsp] at hs; simp at hs
    | _ => cases h
theorem QcC {H : Type} {enc : TypeId × Value → H} {P : Program} {W : World} {t e : TypeId} {s fuel : Nat} {cs : List Value} {y : DataW H × List MemPlace} {X : Type} {val : X → AV} {Good : X → Prop}
    (ht : P.underlying t = some (.slice e)) (hs : P.cellsOf e = s) (hpos : 0 < s) (hval : ∀ x, (val x).cells.length = s)
    (rd : ∀ n cs y, n < fuel → DataW.trod enc P W 0 (fun _ => true) true n e cs = some y → ∃ x : X, Good x ∧ Reads W (val x) cs)
    (h : DataW.trod enc P W 0 (fun _ => true) true fuel t cs = some y) : ∃ (xs : List X) (u : Value), (∀ x ∈ xs, Good x) ∧ cs = [u] ∧ u.oneCell' = true ∧ Rel (base0 W) (.sl s (xs.map val) none) u := by
  rcases DataW.trod_slice ht h with ⟨rfl, _⟩ | ⟨a, len, cap, elems, rest, n, rfl, rfl, _, _, hlc, hcm, hlen, hel, hsp, _⟩
  · exact ⟨[], _, (by simp), rfl, rfl, .slnil s none fun b hb => by cases hb⟩
  · have each : ∀ i, i < len → ∃ x : X, Good x ∧ ∃ cs, W.cells? 0 (a.add (i * s)) s = some cs ∧ Reads W (val x) cs := by
      intro i hi
      have h1 := hel i hi
      rw [List.getElem?_eq_getElem (by omega), hs, Option.bind_eq_some_iff] at h1
      obtain ⟨cs, h2, h3⟩ := h1
      obtain ⟨x, hx1, hx2⟩ := rd n cs _ (Nat.lt_succ_self n) h3
      exact ⟨x, hx1, cs, h2, hx2⟩
    obtain ⟨xs, hxl, hxs⟩ : ∃ xs : List X, xs.length = len ∧ ∀ i (hi : i < xs.length), Good xs[i] ∧ ∃ cs, W.cells? 0 (a.add (i * s)) s = some cs ∧ Reads W (val xs[i]) cs := by
      have : ∀ m, m ≤ len → ∃ xs : List X, xs.length = m ∧ ∀ i (hi : i < xs.length), Good xs[i] ∧ ∃ cs, W.cells? 0 (a.add (i * s)) s = some cs ∧ Reads W (val xs[i]) cs := by
        intro m
        induction m with
        | zero => exact fun _ => ⟨[], rfl, fun i hi => by simp at hi⟩
        | succ m ih =>
          intro hm
          obtain ⟨xs, hl, hx⟩ := ih (by omega)
          obtain ⟨x, hg, hr⟩ := each m (by omega)
          refine ⟨xs ++ [x], by simp [hl], fun i hi => ?_⟩
          by_cases hi' : i < xs.length
          · rw [List.getElem_append_left hi']; exact hx i hi'
          · have e : i = m := by simp at hi; omega
            subst e
            have hxe : (xs ++ [x])[i] = x := by simp [← hl]
            rw [hxe]
            exact ⟨hg, hr⟩
      exact this len (Nat.le_refl _)
    have hgood : ∀ x ∈ xs, Good x := fun x hx => by
      obtain ⟨i, hi, rfl⟩ := List.getElem_of_mem hx
      exact (hxs i hi).1
    by_cases hcap : cap = 0
    · have hl0 : len = 0 := by omega
      subst hcap; subst hl0
      have : xs = [] := List.length_eq_zero_iff.1 hxl
      subst this
      exact ⟨[], _, (by simp), rfl, rfl, .slzero s none a fun b hb => by cases hb⟩
    · have hspot : a.spot = none := by
        have key : W.cells? 0 (a.add (0 * s)) s ≠ none → a.spot = none := by
          intro hk
          cases hc : W.cells? 0 (a.add (0 * s)) s with
          | none => exact absurd hc hk
          | some cs =>
            obtain ⟨_, hl, hcell⟩ := World.cells?_some hc
            have := hcell 0 hpos
            rw [List.getElem?_eq_getElem (by omega)] at this
            have := (Qgk this).2
            simpa [Addr.add] using this
        by_cases hl : 0 < len
        · refine key fun hn => ?_
          have := hel 0 hl
          rw [hs, hn, List.getElem?_eq_getElem (by omega)] at this
          simp at this
        · obtain ⟨hrl, hr⟩ := hsp rfl
          refine key fun hn => ?_
          have := hr 0 (by omega)
          rw [show len + 0 = 0 by omega, hs, hn, List.getElem?_eq_getElem (by omega)] at this
          simp at this
      have ha : a = ⟨a.block, a.off, none⟩ := by cases a; simp only at hspot; subst hspot; rfl
      have hvs : ∀ x ∈ xs.map val, x.cells.length = s := fun x hx => by
        obtain ⟨z, _, rfl⟩ := List.mem_map.1 hx
        exact hval z
      have hflat : ∀ (j : Nat) (v : AV), (flat (xs.map val))[j]? = some v → ∃ (i : Nat) (hi : i < xs.length) (k : Nat), k < s ∧ j = i * s + k ∧ (val xs[i]).cells[k]? = some v := by
        intro j v hj
        have hlt := QN hj
        rw [flat_length hvs, List.length_map] at hlt
        have hi : j / s < xs.length := by rw [Nat.div_lt_iff_lt_mul hpos]; exact hlt
        have hdm := Nat.div_add_mod j s
        have hml := Nat.mod_lt j hpos
        refine ⟨j / s, hi, j % s, hml, by rw [Nat.mul_comm]; exact hdm.symm, ?_⟩
        obtain ⟨v', hv'⟩ : ∃ v', (val (xs[j / s]'hi)).cells[j % s]? = some v' := ⟨_, List.getElem?_eq_getElem (by rw [hval]; exact hml)⟩
        have := flat_get hvs (k := j / s) (x := val (xs[j / s]'hi)) (by rw [List.getElem?_map, List.getElem?_eq_getElem hi]; rfl) hv'
        rw [show j / s * s + j % s = j by rw [Nat.mul_comm]; exact hdm, hj] at this
        rw [hv', this]
      have hcell : ∀ (j : Nat) (v : AV), (flat (xs.map val))[j]? = some v → ∃ u, W.cell? ⟨a.block, a.off + j, none⟩ = some u ∧ Rel (base0 W) v u ∧ u.oneCell' = true := by
        intro j v hj
        obtain ⟨i, hi, k, hk, rfl, hv⟩ := hflat j v hj
        obtain ⟨_, cs, hcs, hrd⟩ := hxs i hi
        obtain ⟨_, hl, hc⟩ := World.cells?_some hcs
        obtain ⟨u, hu⟩ : ∃ u, cs[k]? = some u := ⟨_, List.getElem?_eq_getElem (by omega)⟩
        have h1 := hc k hk
        rw [hu] at h1
        obtain ⟨h2, h3⟩ := hrd.2 k v u hv hu
        refine ⟨u, ?_, h2, h3⟩
        have e : (a.add (i * s)).add k = ⟨a.block, a.off + (i * s + k), none⟩ := by
          rw [ha, addr_add, addr_add, Nat.add_assoc]
        rw [← e]
        exact h1
      refine ⟨xs, _, hgood, rfl, rfl, ?_⟩
      have hsl := Rel.sl (c := base0 W) s (xs.map val) none a.block a.off cap (fun j => (W.cell? ⟨a.block, a.off + j, none⟩).getD undef) hvs (by rw [List.length_map]; omega) hcm
        (fun j v hj => by
          obtain ⟨u, h1, h2, h3⟩ := hcell j v hj
          rw [h1]
          exact ⟨⟨h1, Qi4 (Qgk h1).1⟩, h3⟩)
        (fun j v hj => by
          obtain ⟨u, h1, h2, h3⟩ := hcell j v hj
          rw [h1]
          exact h2)
        (fun b hb => by cases hb)
      rw [List.length_map, hxl, ← ha] at hsl
      exact hsl
theorem Qcd (c : Cx) : RelL c [] #[] := ⟨rfl, fun j a u h => by simp at h⟩
theorem QaY {c : Cx} {a : AV} {asx : List AV} {u : Value} {us : List Value} (h : Rel c a u) (hs : RelL c asx us.toArray) : RelL c (a :: asx) (u :: us).toArray := by
  refine ⟨by have := hs.1; simp at this ⊢; exact this, fun j x v hx hv => ?_⟩
  cases j with
  | zero => simp at hx hv; subst hx; subst hv; exact h
  | succ j => exact hs.2 j x v (by simpa using hx) (by simpa using hv)
theorem Qj9 {W : World} {l : List AV} {cs : Array Value} (h : Reads W (.agg l) cs.toList) : Rel (base0 W) (.agg l) (.agg cs) :=
  .agg l cs (by have := h.1; simpa [AV.cells] using this) fun j a u ha hu => (h.2 j a u ha (by simpa using hu)).1
theorem Qca {H : Type} {enc : TypeId × Value → H} {P : Program} {W : World} {r : Reach} {b0 : Nat} {t : TypeId} {fs : Array Field} {v : Value} {d : DataW H} {ps : List MemPlace} {X : Type} {val : X → AV} {Good : X → Prop}
    (ht : P.underlying t = some (.struct fs)) (hv : Value.okWide P W r b0 t v) (hd : DataW.Trod enc P W 0 (fun _ => true) true t v d ps) (hval : ∀ x, ∃ l, val x = .agg l)
    (rd : ∀ fuel cs y, DataW.trod enc P W 0 (fun _ => true) true fuel t cs = some y → ∃ x : X, Good x ∧ Reads W (val x) cs) : ∃ x : X, Good x ∧ Rel (base0 W) (val x) v := by
  obtain ⟨cs, rfl⟩ := Qgm ht hv
  obtain ⟨fuel, hf⟩ := hd
  obtain ⟨x, hg, hr⟩ := rd fuel _ _ hf
  obtain ⟨l, hl⟩ := hval x
  refine ⟨x, hg, ?_⟩
  rw [hl] at hr ⊢
  exact Qj9 hr
theorem Xi {α : Type} {n : Nat} : ∀ {l : List α}, l.length = n + 1 → ∃ a l', l = a :: l' ∧ l'.length = n
  | a :: l, h => ⟨a, l, rfl, by simpa using h⟩
theorem len_nil {α : Type} {l : List α} (h : l.length = 0) : l = [] := List.length_eq_zero_iff.1 h
end Go.Proofs.YtehjodmnajgdgaaGreatDoor.Ab
namespace Go.Proofs.YtehjodmnajgdgaaGreatDoor.Ab
open Go.RowKit
def HasG (h : AH) (g : Nat) (cs : Array Value) : Prop := ∃ (i : Nat) (ty : TypeId) (fr : Nat × Nat), h[i]? = some (.glob g cs ty fr)
theorem HasG.app {h : AH} {g : Nat} {cs : Array Value} (H : HasG h g cs) (l : AH) : HasG (h ++ l) g cs := let ⟨i, ty, fr, e⟩ := H; ⟨i, ty, fr, hext e l⟩
theorem HasG.world {c : Cx} (hst : St c) {g : Nat} {cs : Array Value} (H : HasG c.h g cs) : ∃ ty fr, c.w.heap[g]? = some (.cells cs ty fr) :=
  let ⟨i, ty, fr, e⟩ := H; ⟨ty, fr, (hst.blocks i _ e).2⟩
theorem HasG.var {P : Program} {c : Cx} (hst : St c) {g : Nat} {cs : Array Value} (H : HasG c.h g cs) {nm : String} (hn : P.globalNamed nm = some g) : c.w.var? P nm = some cs := by
  obtain ⟨ty, fr, e⟩ := H.world hst
  simp only [World.var?, hn, Qnq, e]
theorem HasG.kin {c c' : Cx} (hev : Ev c c') {g : Nat} {cs : Array Value} (H : HasG c.h g cs) : HasG c'.h g cs := by
  obtain ⟨i, ty, fr, e⟩ := H
  obtain ⟨b', hb, hk⟩ := hev.kin i _ e
  simp only [Kin] at hk
  obtain ⟨rfl, _⟩ := hk
  exact ⟨i, ty, fr, hb⟩
structure GV where
  g : Nat
  cs : Array Value
  ty : TypeId
  fr : Nat × Nat
def GV.blk (x : GV) : AB := .glob x.g x.cs x.ty x.fr
def Qd2 (W : World) (gs : List GV) : Cx := ⟨fun id => (gs[id]?).map (·.g), gs.map GV.blk, W⟩
theorem Qa5 {W : World} {gs : List GV} {id : Nat} {b : AB} (h : (Qd2 W gs).h[id]? = some b) : ∃ x, gs[id]? = some x ∧ b = x.blk ∧ (Qd2 W gs).ρ id = some x.g := by
  simp only [Qd2, List.getElem?_map, Option.map_eq_some_iff] at h ⊢
  obtain ⟨x, hx, rfl⟩ := h
  exact ⟨x, hx, rfl, x, hx, rfl⟩
theorem QjF {l : List Nat} (hn : l.Nodup) {i j a : Nat} (hi : l[i]? = some a) (hj : l[j]? = some a) : i = j := by
  have hp := List.pairwise_iff_getElem.1 hn
  obtain ⟨li, ei⟩ := List.getElem?_eq_some_iff.1 hi
  obtain ⟨lj, ej⟩ := List.getElem?_eq_some_iff.1 hj
  rcases Nat.lt_trichotomy i j with h | h | h
  · exact absurd (ei.trans ej.symm) (hp i j li lj h)
  · exact h
  · exact absurd (ej.trans ei.symm) (hp j i lj li h)
theorem QlA {W : World} {gs : List GV} (hw : ∀ x ∈ gs, W.heap[x.g]? = some (.cells x.cs x.ty x.fr)) (hn : (gs.map (·.g)).Nodup) : St (Qd2 W gs) := by
  refine ⟨fun id b h => ?_, fun i j a b B hi hj _ _ hρi hρj => ?_⟩
  · obtain ⟨x, hx, rfl, hρ⟩ := Qa5 h
    exact ⟨hρ, hw x (List.mem_of_getElem? hx)⟩
  · obtain ⟨x, hx, rfl, hρ⟩ := Qa5 hi
    obtain ⟨y, hy, rfl, hρ'⟩ := Qa5 hj
    have e : x.g = y.g := (Option.some.inj (hρ.symm.trans hρi)).trans (Option.some.inj (hρ'.symm.trans hρj)).symm
    have e1 : (gs.map (·.g))[i]? = some x.g := by rw [List.getElem?_map, hx]; rfl
    have e2 : (gs.map (·.g))[j]? = some x.g := by rw [List.getElem?_map, hy, e]; rfl
    exact QjF hn e1 e2
theorem Qgx {W : World} {gs : List GV} {c : Cx} (hw : ∀ x ∈ gs, W.heap[x.g]? = some (.cells x.cs x.ty x.fr)) (hst : St c) (h : Ev (Qd2 W gs) c) : Go.RowKit.Below W.heap.size W c.w := by
  refine ⟨h.os, h.tape, h.output, h.size, fun k hk => ?_⟩
  by_cases ho : (Qd2 W gs).owns k
  · obtain ⟨id, b, hb, _, hρ⟩ := ho
    obtain ⟨x, hx, rfl, hρ'⟩ := Qa5 hb
    obtain rfl := Option.some.inj (hρ.symm.trans hρ')
    obtain ⟨b', hb', hk'⟩ := h.kin id _ hb
    simp only [GV.blk, Kin] at hk'
    obtain ⟨rfl, _⟩ := hk'
    rw [(hst.blocks id _ hb').2, hw x (List.mem_of_getElem? hx)]
  · exact h.frame k hk ho
theorem Qkg {W : World} {gs : List GV} {a : AV} {u : Value} (h : Rel (base0 W) a u) : Rel (Qd2 W gs) a u := by
  have hp : ∀ {B o : Nat} {u : Value}, (base0 W).cellP B o u → (Qd2 W gs).cellP B o u := fun {B o u} h => ⟨h.1, h.2.1, fun id b hb hl hρ => .inr (by
    obtain ⟨x, _, rfl, _⟩ := Qa5 hb
    exact ⟨_, _, _, _, rfl⟩)⟩
  induction h with
  | v x => exact .v x
  | junk x => exact .junk x
  | agg l cs hl h ih => exact .agg l cs hl ih
  | tup l cs hl h ih => exact .tup l cs hl ih
  | slnil s own ht => exact .slnil s own fun b hb => absurd (ht b hb).1 (by simp [base0])
  | slzero s own ba ht => exact .slzero s own ba fun b hb => absurd (ht b hb).1 (by simp [base0])
  | sl s xs own B o cap f hs hcap hmax hc hr ht ih => exact .sl s xs own B o cap f hs hcap hmax (fun j a hj => ⟨hp (hc j a hj).1, (hc j a hj).2⟩) ih fun b hb => absurd (ht b hb).1.1 (by simp [base0])
  | pin s xs k off B o f hs hc hr ih => exact .pin s xs k off B o f hs (fun j a hj => ⟨hp (hc j a hj).1, (hc j a hj).2⟩) ih
  | ptr id k off x hid => exact absurd hid (by simp [base0])
  | arr id lo len x hid => exact absurd hid (by simp [base0])
  | row id lo len cap x hid => exact absurd hid (by simp [base0])
  | mp id x hid => exact absurd hid (by simp [base0])
  | fn f first cap vs ws h1 h2 hv hw ihv ihw => exact .fn f first cap vs ws h1 h2 ihv ihw
  | ifc t a u h ih => exact .ifc t a u ih
  | spt s xs own p n k h ih => exact .spt s xs own p n k ih
theorem Qaj {W : World} {gs : List GV} {asx : List AV} {args : Array Value} (h : RelL (base0 W) asx args) : RelL (Qd2 W gs) asx args := ⟨h.1, fun j a u e1 e2 => Qkg (h.2 j a u e1 e2)⟩
theorem Qaf {P : Program} {f : FuncId} {asx : List AV} {W : World} {args : Array Value} {gs : List GV} (hw : ∀ x ∈ gs, W.heap[x.g]? = some (.cells x.cs x.ty x.fr)) (hn : (gs.map (·.g)).Nodup)
    (hc : Xd P f asx (gs.map GV.blk) fun o h' => o = .ret (.v (.bool true)) ∧ h' = gs.map GV.blk) (hr : RelL (Qd2 W gs) asx args) :
    Calls P f args W fun e W' => e = .returned (.bool true) ∧ Go.RowKit.Below W.heap.size W W' := by
  refine callsIn_wide.1 ((hc.2 Fence.wide 0 (Qd2 W gs) args WF.wide (QlA hw hn) rfl hr).mono ?_)
  rintro e w' ⟨o, c', ⟨rfl, hh⟩, hev, hst, rfl, hend⟩
  obtain ⟨x, rfl, hx⟩ := hend
  cases hx
  exact ⟨rfl, Qgx hw hst hev⟩
theorem Yu {P : Program} {W : World} {l : List (String × DataW Unit)} (h : laidMetH P l W) {x : String × DataW Unit} (hf : ((l.filter fun x => x.2.handleName?.isNone).filter fun y => y.1 == x.1) = [x]) : laidMet P [x] W := by
  have := (laidMetH_iff.1 h).1.filter fun y => y.1 == x.1
  rwa [hf] at this
theorem Qlv {P : Program} {W : World} {nm : String} {d : DataW Unit} (h : laidMet P [(nm, d)] W) : ∃ g t cs, P.globalNamed nm = some g ∧ (P.globals[g]?).map (·.type) = some t ∧ W.var? P nm = some cs ∧ ∃ fuel p, DataW.trod (fun _ => ()) P W 0 (fun _ => true) false fuel t cs.toList = some (d, p) := by
  obtain ⟨ps, ⟨g, t, cs, fuel, p, q, h1, h2, h3, h4, _⟩, _⟩ := h
  exact ⟨g, t, cs, h1, h2, h3, fuel, p, h4⟩
theorem Qha {P : Program} {W : World} {nm : String} {g : Nat} {cs : Array Value} (hn : P.globalNamed nm = some g) (h : W.var? P nm = some cs) : ∃ ty fr, W.heap[g]? = some (.cells cs ty fr) := by
  simp only [World.var?, hn, Qnq] at h
  split at h
  · rename_i cs' ty fr e
    cases h
    exact ⟨ty, fr, e⟩
  · cases h
theorem Yy {P : Program} {W : World} {nm tn : String} {d : DataW Unit} {g : Nat} {t : TypeId} {ms : Array (String × TypeId)} (hn : P.globalNamed nm = some g) (hty : (P.globals[g]?).map (·.type) = some t) (hi : P.underlying t = some (.interface ms))
    (h : laidMet P [(nm, .iface tn d)] W) : ∃ u v ty fr, W.heap[g]? = some (.cells #[.iface u v] ty fr) := by
  obtain ⟨g', t', cs, h1, h2, h3, fuel, p, h4⟩ := Qlv h
  obtain rfl := Option.some.inj (hn.symm.trans h1)
  obtain rfl := Option.some.inj (hty.symm.trans h2)
  obtain ⟨_, u, v, hcs, _⟩ := iface_of_trod hi h4
  obtain ⟨ty, fr, e⟩ := Qha hn h3
  obtain rfl : cs = #[.iface u v] := by cases cs; simp_all
  exact ⟨u, v, ty, fr, e⟩
theorem QbY {P : Program} {W : World} {nm : String} {k : IntKind} {zs : List Int} {g : Nat} {t e : TypeId} {n : Nat}
    (hg : P.globalNamed nm = some g) (hty : (P.globals[g]?).map (·.type) = some t) (ht : P.underlying t = some (.array n e)) (he : P.underlying e = some (.int k)) (hce : P.cellsOf e = 1) (hct : P.cellsOf t = n)
    (h : laidMet P [(nm, Lib.tabData k zs)] W) : ∃ ty fr, W.heap[g]? = some (.cells (zs.map fun z => Value.int k z).toArray ty fr) :=
  Qha hg (Lib.tabIs_of_head hg hty ht he hce hct h)
end Go.Proofs.YtehjodmnajgdgaaGreatDoor.Ab
namespace Go.Proofs.YtehjodmnajgdgaaGreatDoor.Ab
open Go.Lib
def decN (n : Nat) : ByteArray := ⟨(decDigits n).toArray⟩
theorem Qcm (n : Nat) : (decN n).size = nDigits n := by
  show (decDigits n).toArray.size = _
  rw [List.size_toArray, decDigits_length]
theorem Y2 (n : Nat) : (decN n).data.toList = decDigits n := rfl
theorem Qa1 : ∀ (k n : Nat), n < 10 ^ (k + 1) → nDigits n ≤ k + 1
  | 0, n, h => by rw [nDigits_small (by simpa using h)]; exact Nat.le_refl _
  | k + 1, n, h => by
    by_cases hn : n < 10
    · rw [nDigits_small hn]; omega
    · rw [nDigits_big hn]
      have := Qa1 k (n / 10) (by rw [Nat.pow_succ] at h; omega)
      omega
theorem Qcv {n : Nat} (h : n ≤ 9223372036854775808) : (decN n).size ≤ 19 := by
  rw [Qcm]
  exact Qa1 18 n (by omega)
theorem Qcl {n : Nat} (h : n ≤ 1048576) : (decN n).size ≤ 7 := by
  rw [Qcm]
  exact Qa1 6 n (by omega)
theorem Qld (n : Nat) : 1 ≤ (decN n).size := by rw [Qcm]; exact nDigits_pos n
theorem QaU {a b : ByteArray} (h : a.data.toList = b.data.toList) : a = b := by
  obtain ⟨a⟩ := a; obtain ⟨b⟩ := b
  congr 1
  exact Array.toList_inj.1 h
theorem Xk (a b : ByteArray) : (a ++ b).data.toList = a.data.toList ++ b.data.toList := by
  rw [ByteArray.data_append, Array.toList_append]
theorem Qbw {n : Nat} (h : n < 10) : decN n = strOfNums [((48 + n : Nat) : Int)] := by
  refine QaU ?_
  rw [Y2, decDigits_one h, strOfNums_data]
  rfl
theorem QdO {n : Nat} (h : ¬ n < 10) : decN n = decN (n / 10) ++ strOfNums [((48 + n % 10 : Nat) : Int)] := by
  refine QaU ?_
  rw [Xk, Y2, Y2, decDigits, dif_neg h, strOfNums_data]
  rfl
theorem QbJ : ∀ (l m : List UInt8) (a : Nat), decFrom a (l ++ m) = (decFrom a l).bind fun b => decFrom b m
  | [], m, a => rfl
  | c :: l, m, a => by
    rw [List.cons_append]
    simp only [decFrom]
    cases digitVal c with
    | none => rfl
    | some d => exact QbJ l m _
theorem Qdg {d : Nat} (h : d < 10) : digitVal (UInt8.ofNat (48 + d)) = some d := by
  have e : (UInt8.ofNat (48 + d)).toNat = 48 + d := by
    rw [UInt8.toNat_ofNat']; omega
  unfold digitVal
  rw [e, if_pos (by omega)]
  congr 1; omega
theorem Qay (n : Nat) : decFrom 0 (decDigits n) = some n := by
  induction n using Nat.strongRecOn with
  | _ n ih =>
    rw [decDigits]
    split
    · rename_i h
      simp only [decFrom, Qdg h]
      congr 1; omega
    · rename_i h
      rw [QbJ, ih (n / 10) (by omega), Option.bind_some]
      simp only [decFrom, Qdg (show n % 10 < 10 by omega)]
      congr 1; omega
theorem QkS (n : Nat) : ∃ d r, d < 10 ∧ decDigits n = UInt8.ofNat (48 + d) :: r := by
  induction n using Nat.strongRecOn with
  | _ n ih =>
    rw [decDigits]
    split
    · rename_i h; exact ⟨n, [], h, rfl⟩
    · rename_i h
      obtain ⟨d, r, hd, e⟩ := ih (n / 10) (by omega)
      exact ⟨d, r ++ [UInt8.ofNat (48 + n % 10)], hd, by rw [e]; rfl⟩
theorem Qli {n : Nat} (h : (decDigits n).length ≤ 18) : atoiAll (decDigits n) = .ok (n : Int) := by
  rw [atoiAll_short _ h]
  obtain ⟨d, r, hd, e⟩ := QkS n
  have e1 : (UInt8.ofNat (48 + d)).toNat = 48 + d := by rw [UInt8.toNat_ofNat']; omega
  have h45 : (UInt8.ofNat (48 + d) == 45) = false := by
    rw [beq_eq_false_iff_ne]; intro h; have := congrArg UInt8.toNat h; rw [e1] at this; simp at this; omega
  have h43 : (UInt8.ofNat (48 + d) == 43) = false := by
    rw [beq_eq_false_iff_ne]; intro h; have := congrArg UInt8.toNat h; rw [e1] at this; simp at this; omega
  have : atoi (decDigits n) = some (n : Int) := by
    have hdn : decNat (decDigits n) = some n := by
      unfold decNat
      rw [if_neg (by rw [e]; simp)]
      exact Qay n
    rw [e] at hdn ⊢
    simp only [atoi, h45, h43, Qnp, if_false, hdn, Qnn]
  rw [this]; rfl
end Go.Proofs.YtehjodmnajgdgaaGreatDoor.Ab
set_option maxRecDepth 4000
namespace Go.Proofs.YtehjodmnajgdgaaGreatDoor.Ab
open Go.Proofs Go.RowKit
def tabC : Array Value := (Lib.pow10Tab.map fun z => Value.int .u64 z).toArray
def XT (h : AH) : Prop := HasG h 0 tabC
open Go.Sort in
theorem Qb3 (w : World) (q : Nat) (os : Array Obj) : Go.RowKit.Below w.heap.size w (grow (w.drewN q) os) :=
  ⟨rfl, rfl, rfl, by simp [grow], fun i hi => by
    show ((w.drewN q).heap ++ os)[i]? = _
    rw [Array.getElem?_append_left (by show i < w.heap.size; omega)]
    rfl⟩
theorem Qjw (n : Nat) (hn : n ≤ 9223372036854775807) (h : AH) (hG : XT h) : Xd Tryz.prog 72 [.i n] h fun o h' => o = .ret (.v (.string (decN n))) ∧ h' = h :=
  Qam (vs := [.int .i64 n]) Tryz.call72 fun c hst hh => by
    have hv : c.w.var? Tryz.prog "internal/strconv.uint64pow10" = some tabC := HasG.var hst (hh ▸ hG) (by kernel_rfl)
    refine (Tryz.strconv_Itoa n (by omega) (by omega) c.w hv).mono ?_
    rintro e w' ⟨rfl, k, os, rfl⟩
    refine ⟨_, rfl, ?_, fun c' => by rw [Lib.itoa_nonneg]; exact .v _⟩
    exact Qb3 c.w k os
theorem QeH (n : Nat) (h1 : n ≤ 1048576) (h : AH) (hG : XT h) : Xd Tryz.prog 73 [.i n] h fun o h' => o = .ret (.v (.string (vOf (decN n)))) ∧ h' = h :=
  Qlx n (by omega) (by omega) _ (by have := Qcl h1; omega) h (Qjw n (by omega) h hG)
theorem Qmw (x : Int) (h0 : 0 ≤ x) (h1 : x < 256) : pv Tryz.prog (convert 3 5 (.int .i64 x)) = some (.int .u8 x) := by
  rw [Qjr Tryz.prog 3 5 (ts := .int .i64) (kd := .u8) (by kernel_rfl) (by kernel_rfl)]
  have : IntKind.u8.wrap x = x := by simp [IntKind.wrap, IntKind.bits, IntKind.signed]; omega
  rw [this]
theorem Qc7 (n : Nat) : n ≤ 9223372036854775807 → Pure Tryz.prog 74 [.i n] (.v (.string (decN n))) := by
  induction n using Nat.strongRecOn with
  | _ n ih =>
    intro hn h
    have m0 : ¬ (n : Int) < 0 := by omega
    have hr := fun xo yo => Qmy Tryz.prog 3 xo yo .i64 (n : Int) 10 (by decide)
    have hq := fun xo yo => QlW Tryz.prog 3 xo yo .i64 (n : Int) 10 (by decide)
    have er : (n : Int).tmod 10 = ((n % 10 : Nat) : Int) := rfl
    have eq : IntKind.i64.wrap ((n : Int).tdiv 10) = ((n / 10 : Nat) : Int) := by
      rw [show (n : Int).tdiv 10 = ((n / 10 : Nat) : Int) from rfl, XW (by omega)]
    have ew : IntKind.i64.wrap (48 + ((n % 10 : Nat) : Int)) = ((48 + n % 10 : Nat) : Int) := by rw [XW (by omega)]; omega
    have hc := Qmw ((48 + n % 10 : Nat) : Int) (by omega) (by omega)
    have hby : Qee Tryz.prog 67 9 = true := by kernel_rfl
    by_cases hs : n < 10
    · have m1 : (n : Int) < 10 := by omega
      have e0 : n % 10 = n := Nat.mod_eq_of_lt hs
      rw [e0] at er ew hc
      refine Qe Tryz.func74 rfl Tryz.call74 Tryz.ntmps74 (congrArg Array.toList Tryz.results74) (by simp) ?_
      repeat (first | (((with_reducible refine Qa fun K E hK hE => ?_)); simp -implicitDefEqProofs only [Qd, Qb, Qg, OpW, aop, undef, AS.ev, Qc, Qn, QG, Qi, Qw, Qns, AV.QmP, QU, QnF, QnG, Qv, QnH, ↓reduceIte, Qny, Qnz, Nat.reduceLT, Nat.reduceLeDiff, Nat.reduceEqDiff, Nat.reduceMul, Qnx, QnT, aBin, QP, YK, Qnn, QnA, QnE, Q0, X8, QnR, QnS, Qnt, rng1, Q2, Nat.reducePow, zi5, ei67, m0, m1, hr, er, ew, hc, QaP, hby, intsOf]) | (with_reducible (first | refine Qh fun K hK => ?_ | refine Ql ?_ | refine QA ?_ | refine Qj ?_ | refine Qy ?_)) | ((with_reducible refine hK _ ?_); clear hK) | (refine Qk rfl ?_; simp only [↓reduceIte, Qnp]))
      simp only [QI, Qm, Qu, upd, ↓reduceIte, Qnr, Qnv]; first | refine Qf (htake _ _) (.keep (.v _)) ⟨by rw [Qbw hs], rfl⟩ | refine Qf List.take_length (.keep (.v _)) ⟨by rw [Qbw hs], rfl⟩
    · have m1 : ¬ (n : Int) < 10 := by omega
      have c := ih (n / 10) (by omega) (by omega)
      have hsz : (decN (n / 10)).size ≤ 19 := Qcv (by omega)
      have hsa := fun xo yo => Xv Tryz.prog 9 xo yo (decN (n / 10)) (strOfNums [((48 + n % 10 : Nat) : Int)]) (by rw [strOfNums_size]; simp; omega)
      refine Qe Tryz.func74 rfl Tryz.call74 Tryz.ntmps74 (congrArg Array.toList Tryz.results74) (by simp) ?_
      repeat (first | ((first | (with_reducible (first | refine Qa fun K E hK hE => ?_ | refine Qo c ?_))); simp -implicitDefEqProofs only [Qd, Qb, Qg, OpW, QO, aop, undef, AS.ev, Qc, Qn, QG, Qi, Qw, Qns, AV.QmP, QU, QnF, QnG, Qv, QnH, ↓reduceIte, Qny, Qnz, Nat.reduceLT, Nat.reduceLeDiff, Nat.reduceEqDiff, Nat.reduceMul, Qnx, QnT, aBin, QP, YK, Qnn, QnA, QnE, Q0, X8, QnS, Qnt, rng1, Q2, Nat.reducePow, zi5, ei67, m0, m1, hr, hq, er, eq, ew, hc, QaP, hby, intsOf, hsa]) | (with_reducible (first | refine Qh fun K hK => ?_ | refine Ql ?_ | refine QA ?_ | refine Qj ?_)) | ((with_reducible refine hK _ ?_); clear hK) | (refine Qk rfl ?_; simp only [↓reduceIte, Qnp]))
      simp only [QI, Qm, Qu, upd, ↓reduceIte, Qnr, Qnv]; first | refine Qf (htake _ _) (.keep (.v _)) ⟨by rw [QdO hs], rfl⟩ | refine Qf List.take_length (.keep (.v _)) ⟨by rw [QdO hs], rfl⟩
theorem QfP (n : Nat) (h1 : n ≤ 1048576) : Pure Tryz.prog 75 [.i n] (.v (.string (vOf (decN n)))) := by
  intro h
  have m0 : ¬ (n : Int) < 0 := by omega
  have m1 : ¬ (n : Int) > 1048576 := by omega
  have c := Qc7 n (by omega)
  have hsz := Qcl h1
  have hsa := fun xo yo => Xv Tryz.prog 9 xo yo ({ data := #[86] } : ByteArray) (decN n) (by show 1 + _ ≤ _; omega)
  refine Qe Tryz.func75 rfl Tryz.call75 Tryz.ntmps75 (congrArg Array.toList Tryz.results75) (by simp) ?_
  repeat (first | ((first | (with_reducible (first | refine Qa fun K E hK hE => ?_ | refine Qo c ?_))); simp -implicitDefEqProofs only [Qd, Qb, Qg, OpW, QO, aop, undef, AS.ev, Qc, Qn, QG, Qi, Qw, Qns, ↓reduceIte, Nat.reduceLT, Nat.reduceEqDiff, aBin, Qnl, Qnm, Qnn, Qnq, Qno, QnA, QnE, Q0, Xg, QnS, Qnt, Qnp, m0, m1, hsa]) | (with_reducible (first | refine Qh fun K hK => ?_ | refine Ql ?_ | refine QA ?_ | refine Qj ?_)) | ((with_reducible refine hK _ ?_); clear hK) | (refine Qk rfl ?_; simp only [↓reduceIte, Qnp]))
  simp only [QI, Qm, Qu, upd, ↓reduceIte, Qnr, Qnv]; first | refine Qf (htake _ _) (.keep (.v _)) ⟨rfl, rfl⟩ | refine Qf List.take_length (.keep (.v _)) ⟨rfl, rfl⟩
end Go.Proofs.YtehjodmnajgdgaaGreatDoor.Ab
set_option maxRecDepth 4000
namespace Go.Proofs.YtehjodmnajgdgaaGreatDoor.Ab
open Go.Proofs
def BTy (ty : TypeId) : Prop := ty = 69 ∨ ty = 71
theorem Qmo (xo : Operand) : pv Tryz.prog (do eqGuard .eql 66 xo (.const (.pointer none)) (.pointer none) (.pointer none); binOp .eql 66 (.pointer none) (.pointer none)) = some (.bool true) := by
  kernel_rfl
theorem BTy.cells {ty : TypeId} (h : BTy ty) : Tryz.prog.cellsOf ty = 2 := by rcases h with rfl | rfl <;> kernel_rfl
theorem BTy.lies {ty : TypeId} (h : BTy ty) : liesAt Tryz.prog Tryz.prog.depth ty 1 0 69 1 = true := by rcases h with rfl | rfl <;> kernel_rfl
theorem unB : Tryz.prog.underlying 66 = some (.pointer 69) := by kernel_rfl
theorem unU : Tryz.prog.underlying 114 = some .unsafePointer := by kernel_rfl
theorem inB : ∃ j, Tryz.prog.info? 69 = some j ∧ j.size ≠ 0 := by
  have h : (match Tryz.prog.info? 69 with | some j => decide (j.size ≠ 0) | none => false) = true := by kernel_rfl
  cases hj : Tryz.prog.info? 69 with
  | none => rw [hj] at h; cases h
  | some j => rw [hj] at h; exact ⟨j, rfl, of_decide_eq_true h⟩
theorem isB : (Tryz.prog.info? 69).isSome = true := by kernel_rfl
theorem toU {ty : TypeId} (hty : BTy ty) {h : AH} {i : Nat} {xs : List AV} (hb : h[i]? = some (.cells ty 2 [.agg xs])) : Qaa Tryz.prog 66 114 i 0 0 h = some (.ptr i 0 0) := by
  obtain ⟨j, hj, h0⟩ := inB
  simp only [Qaa, hb, unB, unU, hj]
  rw [if_neg (by simp), if_pos h0]
theorem QmK {ty : TypeId} (hty : BTy ty) {h : AH} {i : Nat} {xs : List AV} (hb : h[i]? = some (.cells ty 2 [.agg xs])) : Qaa Tryz.prog 114 66 i 0 0 h = some (.ptr i 0 0) := by
  obtain ⟨j, hj, h0⟩ := inB
  simp only [Qaa, hb, unB, unU, hj]
  rw [if_neg (by simp), if_pos ⟨rfl, hty.cells, hty.lies⟩]
theorem QaD {ty : TypeId} (hty : BTy ty) {i j : Nat} (hij : i ≠ j) (u : Bool) (tx : ByteArray) : Wr Tryz.prog 5 ty 80 [.ptr i 0 0] i j u tx (.tup []) true tx := by
  intro h hi hj
  have f1 := fun x y => YP h i x j y
  have f2 := fun x y => YM (h := h) hi hij x y
  have f3 := fun x y z => QdD (h := h) (i := i) (j := j) hij x y z
  have f4 := Qmo
  have c0 := fun y h => Qks (P := Tryz.prog) (y := y) (h := h) Tryz.func112 (by kernel_rfl) (by kernel_rfl) (by kernel_rfl) (by kernel_rfl)
  cases u
  · refine Qe Tryz.func80 rfl Tryz.call80 Tryz.ntmps80 (congrArg Array.toList Tryz.results80) (by simp) ?_
    rw [bw0, bw1]
    repeat (first | ((first | (with_reducible (first | refine Qa fun K E hK hE => ?_ | refine Qs fun K E hK hE => ?_ | refine FunW.ret (c0 _ _) ?_))); simp -implicitDefEqProofs only [Qd, Qb, Qg, OpW, QO, aop, undef, AS.ev, Qc, QV, Zb, Qi, Qw, Qns, AV.QmP, QB, Xu, QJ, Qa2, QnF, QnG, XC, QnH, ↓reduceIte, Qny, Qnz, Nat.reduceAdd, Nat.reduceLT, Nat.reduceLeDiff, Nat.reduceEqDiff, Qnx, QnK, QnU, QnT, Qp, QK, QL, Q5, QW, aBin, Qnl, QnP, Qnn, QnA, QnE, QnN, QnM, QnD, Qnu, QnC, Qnp, ti66, QlS, QX, f2, f3, f4, toU hty (YM (h := h) hi hij _ _), QmK hty (YM (h := h) hi hij _ _)]) | ((with_reducible refine hK _ ?_); clear hK) | (refine Qk rfl ?_; simp only [↓reduceIte]))
    simp -implicitDefEqProofs only [Qnn, Qnr, List.mapM_nil, Option.pure_def, Qnn, QI, Qm, Qnv]
    exact .inr ⟨rfl, rfl⟩
  · refine Qe Tryz.func80 rfl Tryz.call80 Tryz.ntmps80 (congrArg Array.toList Tryz.results80) (by simp) ?_
    rw [bw1]
    repeat (first | (((with_reducible refine Qa fun K E hK hE => ?_)); simp -implicitDefEqProofs only [Qd, Qb, Qg, OpW, aop, undef, AS.ev, Qc, Zb, Qi, Qw, Qns, QB, ↓reduceIte, Nat.reduceLT, Nat.reduceEqDiff, QnK, QnT, Qp, QK, QL, aBin, Qnl, Qnn, ti66, un66, QlS, QX, f2, isB, Qeu, notNil]) | (with_reducible refine QA ?_) | ((with_reducible refine hK _ ?_); clear hK) | (refine Qk rfl ?_; simp only [↓reduceIte, Qnp]))
    simp -implicitDefEqProofs only [Qnn, Qnr, List.mapM_nil, Option.pure_def, Qnn, QI, Qm, Qnv]
    exact .inr ⟨rfl, rfl⟩
theorem Qme : Tryz.prog.underlying 67 = some (.slice 5) := by kernel_rfl
theorem QmH : Tryz.prog.underlying 9 = some .string := by kernel_rfl
theorem inU8 : ∃ i z, Tryz.prog.info? 5 = some i ∧ i.zero = some z ∧ i.size = 1 ∧ i.bytes = 1 ∧ z.cells.size = 1 := by
  have h : (match Tryz.prog.info? 5 with | some i => (match i.zero with | some z => decide (i.size = 1 ∧ i.bytes = 1 ∧ z.cells.size = 1) | none => false) | none => false) = true := by kernel_rfl
  cases hj : Tryz.prog.info? 5 with
  | none => rw [hj] at h; cases h
  | some i =>
    cases hz : i.zero with
    | none => rw [hj] at h; simp [hz] at h
    | some z => rw [hj] at h; simp only [hz] at h; exact ⟨i, z, rfl, hz, of_decide_eq_true h⟩
theorem appS {tx s : ByteArray} {j : Nat} {h : AH} (hj : h[j]? = some (.grow 5 1 tx.size)) (hs : tx.size + s.size ≤ 140737488355328) :
    Qbq Tryz.prog 67 9 (.sl 1 (Xo tx) (some j)) s h = some (.sl 1 (Xo (tx ++ s)) (some j), h.set j (.grow 5 1 (tx ++ s).size)) := by
  obtain ⟨i, z, h1, h2, h3, h4, h5⟩ := inU8
  exact Qho Qme QmH h1 h2 h3 h4 h5 hj hs
theorem appN : appInfo Tryz.prog 67 9 = none := by kernel_rfl
theorem QeS {ty : TypeId} (hty : BTy ty) {i j : Nat} (hij : i ≠ j) (u : Bool) (tx s : ByteArray) (hs : tx.size + s.size ≤ 140737488355328) : Wr Tryz.prog 5 ty 40 [.ptr i 0 0, .v (.string s)] i j u tx (.tup [.i s.size, .v .nilIface]) true (tx ++ s) := by
  intro h hi hj
  have f1 := fun x y => YP h i x j y
  have f2 := fun x y => YM (h := h) hi hij x y
  have f3 := fun x y z => QdD (h := h) (i := i) (j := j) hij x y z
  have f5 := fun x y z => QdE (h := h) (i := i) (j := j) x y z
  have f6 := fun x => appS (Qbx (h := h) (i := i) hj x (.grow 5 1 tx.size)) hs
  have c1 := QaD hty hij u tx h hi hj
  have hsl := YB Tryz.prog 9 3 QmH s
  refine Qe Tryz.func40 rfl Tryz.call40 Tryz.ntmps40 (congrArg Array.toList Tryz.results40) (by simp) ?_
  repeat (first | ((first | (with_reducible (first | refine Qa fun K E hK hE => ?_ | refine FunW.ret (FunW.call c1) ?_))); simp -implicitDefEqProofs only [Qd, Qb, Qg, OpW, QO, aop, undef, AS.ev, Qc, QV, Qn, Xz, Qi, Qw, Qns, QnL, AV.QmP, QB, Yf, QJ, QaM, QnF, QnG, QC, QnH, ↓reduceIte, Qny, Qnz, Nat.reduceAdd, Nat.reduceLT, Nat.reduceLeDiff, Nat.reduceEqDiff, Qnx, QnT, Qp, QK, QL, Q5, QW, aLen, Za, Qnl, Qnm, QnP, Qnn, QnA, QnE, QnN, QnM, QnO, Qnw, QnD, Qnu, QnC, goInt, Qnp, ti67, Qh9, QX, f2, f3, f5, f6, bw1, aopR, appN, hsl]) | (with_reducible refine Ql ?_) | ((with_reducible refine hK _ ?_); clear hK))
  simp -implicitDefEqProofs only [Qi, ↓reduceIte, Nat.reduceEqDiff, Qnn, Qnq, Qnr, List.mapM_nil, List.mapM_cons, Option.pure_def, Qnn, Option.bind_eq_bind, QI, Qm, Qu, Qnv]
  exact .inr ⟨rfl, rfl⟩
theorem QfC {ty : TypeId} (hty : BTy ty) {i j : Nat} (hij : i ≠ j) (u : Bool) (tx : ByteArray) (b : UInt8) (hs : tx.size < 140737488355328) : Wr Tryz.prog 5 ty 110 [.ptr i 0 0, .v (.int .u8 (b.toNat : Nat))] i j u tx (.v .nilIface) true (tx ++ { data := #[b] }) := by
  intro h hi hj
  have f1 := fun x y => YP h i x j y
  have f2 := fun x y => YM (h := h) hi hij x y
  have f3 := fun x y z => QdD (h := h) (i := i) (j := j) hij x y z
  have f5 := fun x y z => QdE (h := h) (i := i) (j := j) x y z
  have f7 := fun x y => Qbx (h := h) (i := i) hj x y
  have c1 := QaD hty hij u tx h hi hj
  have e1 : Xo (tx ++ { data := #[b] }) = Xo tx ++ [.v (.int .u8 (b.toNat : Nat))] := Z6 tx _
  have e2 : (tx ++ ({ data := #[b] } : ByteArray)).size = tx.size + 1 := QE _ _
  have hs' : tx.size + 1 ≤ 140737488355328 := hs
  refine Qe Tryz.func110 rfl Tryz.call110 Tryz.ntmps110 (congrArg Array.toList Tryz.results110) (by simp) ?_
  rw [bw1, e1, e2]
  have hm : tx.size + 1 ≤ maxLen := by simp only [maxLen]; omega
  repeat (first | ((first | (with_reducible (first | refine Qa fun K E hK hE => ?_ | refine FunW.ret (FunW.call c1) ?_))); simp -implicitDefEqProofs only [Qd, Qb, Qg, OpW, QO, aop, undef, AS.ev, Qc, QV, Xz, Qi, Qw, Qns, QnL, AV.QmP, QB, QU, Yf, QJ, QaM, QnF, QnG, Qv, QC, QnH, ↓reduceIte, Qny, Qnz, Nat.reduceAdd, Nat.reduceLT, Nat.reduceLeDiff, Nat.reduceEqDiff, Qnx, QnT, Qp, QK, QL, Q5, QW, QP, Za, YK, Qnl, Qnm, QnP, Qnn, QnA, QnE, QnN, QnM, QnO, Qnw, QnD, Qnu, QnC, Qnt, Qnp, rng1, Q2, Nat.reducePow, zi5, ti67, ei67, ai67, Qh9, QX, f2, f3, f5, f7, bw1, X1, hm, hs', Nat.mul_one]) | (with_reducible refine Ql ?_) | ((with_reducible refine hK _ ?_); clear hK))
  simp -implicitDefEqProofs only [Qi, ↓reduceIte, Qnr, QI, Qm, Qu, Qnv]
  exact .inr ⟨rfl, rfl⟩
theorem unPB : Tryz.prog.underlying 111 = some (.pointer 5) := by kernel_rfl
theorem szB : Tryz.prog.cellsOf 5 = 1 := by kernel_rfl
theorem Qi7 {ty : TypeId} {i j : Nat} (hij : i ≠ j) (tx : ByteArray) (h0 : 0 < tx.size) (hs : tx.size ≤ 140737488355328) : Chg2 Tryz.prog 66 [.ptr i 0 0] i (bw ty i j true tx) j (.grow 5 1 tx.size) (.v (.string tx)) (bw ty i j true tx) .gone := by
  intro h hi hj
  have f1 := fun x y => YP h i x j y
  have f2 := fun x y => YM (h := h) hi hij x y
  have f5 := fun x y z => QdE (h := h) (i := i) (j := j) x y z
  have f7 := fun x y => Qbx (h := h) (i := i) hj x y
  have hs' : tx.size ≤ 9223372036854775807 := by omega
  have g1 := Qdu h0 j
  have g2 := fun x => Qdm (P := Tryz.prog) unPB szB (T := tx) (f7 x (.grow 5 1 tx.size)) h0 hs'
  refine Qe Tryz.func66 rfl Tryz.call66 Tryz.ntmps66 (congrArg Array.toList Tryz.results66) (by simp) ?_
  rw [bw1]
  repeat (first | ((first | (with_reducible refine Qa fun K E hK hE => ?_) | (refine QR (id := 1) [(0, 0), (1, 0), (2, 0), (3, 0), (4, 0), (5, 0), (6, 0), (7, 0), (8, 0), (9, 0), (10, 2), (11, 0)] mixed (by kernel_rfl) fun K hK => ?_)); simp -implicitDefEqProofs only [Q4, Q1, Xb, Qd, Qb, Qg, OpW, aop, undef, AS.ev, Qc, QG, Qi, Qw, Qns, QB, ↓reduceIte, Nat.reduceLT, Nat.reduceEqDiff, Qnx, Qp, QK, QL, aLen, Qnl, Qnm, Qnn, Qno, goInt, ti67, un67, Qh9, QX, f2, f5, g1, g2, X1]) | (with_reducible refine Ql ?_) | ((with_reducible refine hK _ ?_); clear hK))
  simp only [QI, Qm, Qu, upd, ↓reduceIte, Qnr, Qnv]
  exact .inr ⟨rfl, rfl⟩
end Go.Proofs.YtehjodmnajgdgaaGreatDoor.Ab
set_option maxRecDepth 4000
namespace Go.Proofs.YtehjodmnajgdgaaGreatDoor.Ab
open Go.Proofs
abbrev mi : ByteArray := { data := #[45] }
def decZ (n : Int) : ByteArray := if n < 0 then mi ++ decN n.natAbs else decN n.toNat
theorem QkO (n : Int) : (⟨(Lib.itoa n).toArray⟩ : ByteArray) = decZ n := by
  unfold decZ Lib.itoa
  split
  · apply ByteArray.ext; rfl
  · rfl
theorem QgJ (n : Int) (h1 : -9223372036854775808 ≤ n) (h2 : n ≤ 9223372036854775807) : (decZ n).size ≤ 20 := by
  unfold decZ
  split
  · rw [QE]
    have := Qcv (n := n.natAbs) (by omega)
    have : mi.size = 1 := rfl
    omega
  · have := Qcv (n := n.toNat) (by omega)
    omega
theorem Qk9 (n : Int) : 0 < (decZ n).size := by
  unfold decZ
  split
  · rw [QE]
    have : mi.size = 1 := rfl
    omega
  · exact Qld _
theorem QiV (n : Int) (h0 : -9223372036854775808 ≤ n) (hn : n ≤ 9223372036854775807) (h : AH) (hG : XT h) : Xd Tryz.prog 72 [.i n] h fun o h' => o = .ret (.v (.string (decZ n))) ∧ h' = h :=
  Qam (vs := [.int .i64 n]) Tryz.call72 fun c hst hh => by
    have hv : c.w.var? Tryz.prog "internal/strconv.uint64pow10" = some tabC := HasG.var hst (hh ▸ hG) (by kernel_rfl)
    refine (Tryz.strconv_Itoa n h0 hn c.w hv).mono ?_
    rintro e w' ⟨rfl, k, os, rfl⟩
    refine ⟨_, rfl, ?_, fun c' => by rw [← QkO]; exact .v _⟩
    exact Qb3 c.w k os
theorem Qhk (n : Nat) : 0 < n → n ≤ 9223372036854775807 → Pure Tryz.prog 74 [.i (-(n : Int))] (.v (.string (mi ++ decN n))) := by
  induction n using Nat.strongRecOn with
  | _ n ih =>
    intro hp hn h
    have m0 : (-(n : Int)) < 0 := by omega
    have hq := fun xo yo => QlW Tryz.prog 3 xo yo .i64 (-(n : Int)) 10 (by decide)
    have eq0 : (-(n : Int)).tdiv 10 = -((n / 10 : Nat) : Int) := by rw [Int.neg_tdiv]; rfl
    have eq : IntKind.i64.wrap ((-(n : Int)).tdiv 10) = -((n / 10 : Nat) : Int) := by rw [eq0, XW (by omega)]
    have e1 : IntKind.i64.wrap (-((n / 10 : Nat) : Int) * 10) = -((n / 10 : Nat) : Int) * 10 := XW (by omega)
    have e2 : IntKind.i64.wrap (48 + -((n / 10 : Nat) : Int) * 10) = 48 + -((n / 10 : Nat) : Int) * 10 := XW (by omega)
    have e3 : IntKind.i64.wrap (48 + -((n / 10 : Nat) : Int) * 10 - -(n : Int)) = ((48 + n % 10 : Nat) : Int) := by rw [XW (by omega)]; omega
    have hc := Qmw ((48 + n % 10 : Nat) : Int) (by omega) (by omega)
    have hby : Qee Tryz.prog 67 9 = true := by kernel_rfl
    by_cases hs : n < 10
    · have m1 : -(n : Int) > -10 := by omega
      have e0 : n % 10 = n := Nat.mod_eq_of_lt hs
      rw [e0] at e3 hc
      have hsa := fun xo yo => Xv Tryz.prog 9 xo yo mi (strOfNums [((48 + n : Nat) : Int)]) (by rw [strOfNums_size]; simp; decide)
      refine Qe Tryz.func74 rfl Tryz.call74 Tryz.ntmps74 (congrArg Array.toList Tryz.results74) (by simp) ?_
      repeat (first | (((with_reducible refine Qa fun K E hK hE => ?_)); simp -implicitDefEqProofs only [Qd, Qb, Qg, OpW, aop, undef, AS.ev, Qc, Qn, QG, Qi, Qw, Qns, AV.QmP, QU, QnF, QnG, Qv, QnH, ↓reduceIte, Qny, Qnz, Nat.reduceLT, Nat.reduceLeDiff, Nat.reduceEqDiff, Nat.reduceMul, Qnx, QnT, aBin, QP, YK, Qnn, QnA, QnE, Q0, Xg, X8, XY, Qky, QnR, Qnt, rng1, Q2, Nat.reducePow, zi5, ei67, m0, m1, hq, eq, e1, e2, e3, hc, QaP, hby, intsOf, hsa]) | (with_reducible (first | refine Qh fun K hK => ?_ | refine Ql ?_ | refine Qy ?_)) | ((with_reducible refine hK _ ?_); clear hK) | (refine Qk rfl ?_; simp only [↓reduceIte]))
      simp only [QI, Qm, Qu, upd, ↓reduceIte, Qnr, Qnv]; first | refine Qf (htake _ _) (.keep (.v _)) ⟨by rw [Qbw hs], rfl⟩ | refine Qf List.take_length (.keep (.v _)) ⟨by rw [Qbw hs], rfl⟩
    · have m1 : ¬ -(n : Int) > -10 := by omega
      have c := ih (n / 10) (by omega) (by omega) (by omega)
      have hsz : (mi ++ decN (n / 10)).size ≤ 20 := by rw [QE]; have := Qcv (n := n / 10) (by omega); have : mi.size = 1 := rfl; omega
      have hsa := fun xo yo => Xv Tryz.prog 9 xo yo (mi ++ decN (n / 10)) (strOfNums [((48 + n % 10 : Nat) : Int)]) (by rw [strOfNums_size]; simp only [Qny, Qnz]; omega)
      refine Qe Tryz.func74 rfl Tryz.call74 Tryz.ntmps74 (congrArg Array.toList Tryz.results74) (by simp) ?_
      repeat (first | ((first | (with_reducible (first | refine Qa fun K E hK hE => ?_ | refine Qo c ?_))); simp -implicitDefEqProofs only [Qd, Qb, Qg, OpW, QO, aop, undef, AS.ev, Qc, Qn, QG, Qi, Qw, Qns, AV.QmP, QU, QnF, QnG, Qv, QnH, ↓reduceIte, Qny, Qnz, Nat.reduceLT, Nat.reduceLeDiff, Nat.reduceEqDiff, Nat.reduceMul, Qnx, QnT, aBin, QP, YK, Qnn, QnA, QnE, Q0, Xg, X8, XY, Qky, QnR, QnS, Qnt, rng1, Q2, Nat.reducePow, zi5, ei67, m0, m1, hq, eq, e1, e2, e3, hc, QaP, hby, intsOf, hsa]) | (with_reducible (first | refine Qh fun K hK => ?_ | refine Ql ?_ | refine QA ?_ | refine Qj ?_ | refine Qy ?_)) | ((with_reducible refine hK _ ?_); clear hK) | (refine Qk rfl ?_; simp only [↓reduceIte, Qnp]))
      simp only [QI, Qm, Qu, upd, ↓reduceIte, Qnr, Qnv]; first | refine Qf (htake _ _) (.keep (.v _)) ⟨by rw [QdO hs, ByteArray.append_assoc], rfl⟩ | refine Qf List.take_length (.keep (.v _)) ⟨by rw [QdO hs, ByteArray.append_assoc], rfl⟩
theorem Qk6 (n : Int) (h0 : -9223372036854775807 ≤ n) (hn : n ≤ 9223372036854775807) : Pure Tryz.prog 74 [.i n] (.v (.string (decZ n))) := by
  by_cases h : n < 0
  · have e : n = -(n.natAbs : Int) := by omega
    have c := Qhk n.natAbs (by omega) (by omega)
    rw [← e] at c
    rw [decZ, if_pos h]
    exact c
  · have e : n = (n.toNat : Int) := by omega
    have c := Qc7 n.toNat (by omega)
    rw [← e] at c
    rw [decZ, if_neg h]
    exact c
def ofB (s : ByteArray) : Int := if (s.toList == ({ data := #[43] } : ByteArray).toList) || (s.toList == ({ data := #[45] } : ByteArray).toList) then 1 else if (s.toList == ({ data := #[42] } : ByteArray).toList) || (s.toList == ({ data := #[47] } : ByteArray).toList) || (s.toList == ({ data := #[37] } : ByteArray).toList) then 2 else 0
def T.oper (t : T) : Int := if t.kind ≠ 2 ∨ t.args.length ≠ 2 then 0 else ofB t.name
theorem QcE (s : ByteArray) : Pure Tryz.prog 109 [.v (.string s)] (.i (ofB s)) := by
  intro h
  cases b1 : s.toList == ({ data := #[43] } : ByteArray).toList
  · cases b2 : s.toList == ({ data := #[45] } : ByteArray).toList
    · cases b3 : s.toList == ({ data := #[42] } : ByteArray).toList
      · cases b4 : s.toList == ({ data := #[47] } : ByteArray).toList
        · cases b5 : s.toList == ({ data := #[37] } : ByteArray).toList
          · have e : ofB s = 0 := by rw [ofB, b1, b2, b3, b4, b5]; rfl
            refine Qe Tryz.func109 rfl Tryz.call109 Tryz.ntmps109 (congrArg Array.toList Tryz.results109) (by simp) ?_
            repeat (first | ((first | (with_reducible (first | refine Qa fun K E hK hE => ?_ | refine Qs fun K E hK hE => ?_))); simp -implicitDefEqProofs only [Qd, Qb, Qg, OpW, aop, undef, AS.ev, Qc, Qn, QG, Qi, Qw, Qns, ↓reduceIte, Nat.reduceLT, Nat.reduceEqDiff, aBin, Qnn, QY, b1, b2, b3, b4, b5]) | (with_reducible (first | refine Qh fun K hK => ?_ | refine Qq ?_ | refine Ql ?_ | refine QA ?_ | refine Qj ?_ | refine QD ?_)) | ((with_reducible refine hK _ ?_); clear hK) | (refine Qk rfl ?_; simp only [↓reduceIte, Qnp]))
            simp only [QI, Qm, Qu, upd, ↓reduceIte, Qnr, Qnv]; first | refine Qf (htake _ _) (.keep (.v _)) ⟨by rw [e], rfl⟩ | refine Qf List.take_length (.keep (.v _)) ⟨by rw [e], rfl⟩
          · have e : ofB s = 2 := by rw [ofB, b1, b2, b3, b4, b5]; rfl
            refine Qe Tryz.func109 rfl Tryz.call109 Tryz.ntmps109 (congrArg Array.toList Tryz.results109) (by simp) ?_
            repeat (first | ((first | (with_reducible (first | refine Qa fun K E hK hE => ?_ | refine Qs fun K E hK hE => ?_))); simp -implicitDefEqProofs only [Qd, Qb, Qg, OpW, aop, undef, AS.ev, Qc, Qn, QG, Qi, Qw, Qns, ↓reduceIte, Nat.reduceLT, Nat.reduceEqDiff, aBin, Qnn, QY, b1, b2, b3, b4, b5]) | (with_reducible (first | refine Qh fun K hK => ?_ | refine Qq ?_ | refine Ql ?_ | refine Qj ?_ | refine Qy ?_ | refine QF ?_)) | ((with_reducible refine hK _ ?_); clear hK) | (refine Qk rfl ?_; simp only [↓reduceIte, Qnp]))
            simp only [QI, Qm, Qu, upd, ↓reduceIte, Qnr, Qnv]; first | refine Qf (htake _ _) (.keep (.v _)) ⟨by rw [e], rfl⟩ | refine Qf List.take_length (.keep (.v _)) ⟨by rw [e], rfl⟩
        · have e : ofB s = 2 := by rw [ofB, b1, b2, b3, b4]; rfl
          refine Qe Tryz.func109 rfl Tryz.call109 Tryz.ntmps109 (congrArg Array.toList Tryz.results109) (by simp) ?_
          repeat (first | ((first | (with_reducible (first | refine Qa fun K E hK hE => ?_ | refine Qs fun K E hK hE => ?_))); simp -implicitDefEqProofs only [Qd, Qb, Qg, OpW, aop, undef, AS.ev, Qc, Qn, QG, Qi, Qw, Qns, ↓reduceIte, Nat.reduceLT, Nat.reduceEqDiff, aBin, Qnn, QY, b1, b2, b3, b4]) | (with_reducible (first | refine Qh fun K hK => ?_ | refine Qq ?_ | refine Ql ?_ | refine QA ?_ | refine Qj ?_ | refine Qy ?_ | refine QF ?_)) | ((with_reducible refine hK _ ?_); clear hK) | (refine Qk rfl ?_; simp only [↓reduceIte, Qnp]))
          simp only [QI, Qm, Qu, upd, ↓reduceIte, Qnr, Qnv]; first | refine Qf (htake _ _) (.keep (.v _)) ⟨by rw [e], rfl⟩ | refine Qf List.take_length (.keep (.v _)) ⟨by rw [e], rfl⟩
      · have e : ofB s = 2 := by rw [ofB, b1, b2, b3]; rfl
        refine Qe Tryz.func109 rfl Tryz.call109 Tryz.ntmps109 (congrArg Array.toList Tryz.results109) (by simp) ?_
        repeat (first | ((first | (with_reducible (first | refine Qa fun K E hK hE => ?_ | refine Qs fun K E hK hE => ?_))); simp -implicitDefEqProofs only [Qd, Qb, Qg, OpW, aop, undef, AS.ev, Qc, Qn, QG, Qi, Qw, Qns, ↓reduceIte, Nat.reduceLT, Nat.reduceEqDiff, aBin, Qnn, QY, b1, b2, b3]) | (with_reducible (first | refine Qh fun K hK => ?_ | refine Qq ?_ | refine Ql ?_ | refine QA ?_ | refine Qj ?_ | refine Qy ?_ | refine QF ?_)) | ((with_reducible refine hK _ ?_); clear hK) | (refine Qk rfl ?_; simp only [↓reduceIte, Qnp]))
        simp only [QI, Qm, Qu, upd, ↓reduceIte, Qnr, Qnv]; first | refine Qf (htake _ _) (.keep (.v _)) ⟨by rw [e], rfl⟩ | refine Qf List.take_length (.keep (.v _)) ⟨by rw [e], rfl⟩
    · have e : ofB s = 1 := by rw [ofB, b1, b2]; rfl
      refine Qe Tryz.func109 rfl Tryz.call109 Tryz.ntmps109 (congrArg Array.toList Tryz.results109) (by simp) ?_
      repeat (first | ((first | (with_reducible (first | refine Qa fun K E hK hE => ?_ | refine Qs fun K E hK hE => ?_))); simp -implicitDefEqProofs only [Qd, Qb, Qg, OpW, aop, undef, AS.ev, Qc, Qn, QG, Qi, Qw, Qns, ↓reduceIte, Nat.reduceLT, Nat.reduceEqDiff, aBin, Qnn, QY, b1, b2]) | (with_reducible (first | refine Qh fun K hK => ?_ | refine Qq ?_ | refine Ql ?_ | refine Qj ?_ | refine Qy ?_ | refine QF ?_)) | ((with_reducible refine hK _ ?_); clear hK) | (refine Qk rfl ?_; simp only [↓reduceIte, Qnp]))
      simp only [QI, Qm, Qu, upd, ↓reduceIte, Qnr, Qnv]; first | refine Qf (htake _ _) (.keep (.v _)) ⟨by rw [e], rfl⟩ | refine Qf List.take_length (.keep (.v _)) ⟨by rw [e], rfl⟩
  · have e : ofB s = 1 := by rw [ofB, b1]; rfl
    refine Qe Tryz.func109 rfl Tryz.call109 Tryz.ntmps109 (congrArg Array.toList Tryz.results109) (by simp) ?_
    repeat (first | (((with_reducible refine Qa fun K E hK hE => ?_)); simp -implicitDefEqProofs only [Qd, Qb, Qg, OpW, aop, undef, AS.ev, Qc, Qn, QG, Qi, Qw, Qns, ↓reduceIte, Nat.reduceLT, Nat.reduceEqDiff, aBin, Qnn, QY, b1]) | (with_reducible (first | refine Qh fun K hK => ?_ | refine Qq ?_ | refine Ql ?_ | refine QA ?_ | refine Qj ?_ | refine Qy ?_ | refine QF ?_)) | ((with_reducible refine hK _ ?_); clear hK) | (refine Qk rfl ?_; simp only [↓reduceIte]))
    simp only [QI, Qm, Qu, upd, ↓reduceIte, Qnr, Qnv]; first | refine Qf (htake _ _) (.keep (.v _)) ⟨by rw [e], rfl⟩ | refine Qf List.take_length (.keep (.v _)) ⟨by rw [e], rfl⟩
theorem Qbu (t : T) (hl : t.args.length ≤ maxLen) : Pure Tryz.prog 68 [t.av] (.i t.oper) := by
  intro h
  have c1 := QcE t.name
  have e1 : t.av = .agg [.i t.kind, .i t.int, .v (.string t.name), .sl 4 (avs t.args) none] := by cases t; rfl
  have m1 : ((t.args.length : Int) == 2) = decide (t.args.length = 2) := by
    rw [Bool.eq_iff_iff]; simp; omega
  by_cases hk : t.kind = 2
  · by_cases hn : t.args.length = 2
    · have e : t.oper = ofB t.name := by rw [T.oper, if_neg]; omega
      have m2 : ((t.args.length : Int) != 2) = false := by simp; omega
      refine Qe Tryz.func68 rfl Tryz.call68 Tryz.ntmps68 (congrArg Array.toList Tryz.results68) (by simp) ?_
      rw [e1]
      repeat (first | ((first | (with_reducible (first | refine Qa fun K E hK hE => ?_ | refine Qo c1 ?_))); simp -implicitDefEqProofs only [Qd, Qb, Qg, OpW, QO, aop, undef, AS.ev, Qc, Qn, Qi, Qw, Qns, AV.QmP, QB, QnF, QnG, Qv, Qt, QC, QnH, ↓reduceIte, Qny, Qnz, Nat.reduceAdd, Nat.reduceLT, Nat.reduceEqDiff, Qnx, QnK, Qp, QK, QL, aBin, aLen, QT, Qnl, Qnm, Qnn, Qnq, Qno, QnA, QnE, Xh, goInt, Qnt, Qn6, Qnp, QH, ti3, ti9, ti22, un22, Xq, Xx, Xy, hk, m2, QH]) | (with_reducible (first | refine Qh fun K hK => ?_ | refine Ql ?_ | refine QA ?_ | refine Qj ?_)) | ((with_reducible refine hK _ ?_); clear hK) | (refine Qk rfl ?_; simp only [↓reduceIte, Qnp]))
      simp only [QI, Qm, Qu, upd, ↓reduceIte, Qnr, Qnv]; first | refine Qf (htake _ _) (.keep (.v _)) ⟨by rw [e], rfl⟩ | refine Qf List.take_length (.keep (.v _)) ⟨by rw [e], rfl⟩
    · have e : t.oper = 0 := by rw [T.oper, if_pos (.inr hn)]
      have m2 : ((t.args.length : Int) != 2) = true := by simp; omega
      refine Qe Tryz.func68 rfl Tryz.call68 Tryz.ntmps68 (congrArg Array.toList Tryz.results68) (by simp) ?_
      rw [e1]
      repeat (first | (((with_reducible refine Qa fun K E hK hE => ?_)); simp -implicitDefEqProofs only [Qd, Qb, Qg, OpW, aop, undef, AS.ev, Qc, Qn, Qi, Qw, Qns, AV.QmP, QB, QnF, QnG, Qv, Qt, QC, QnH, ↓reduceIte, Qny, Qnz, Nat.reduceAdd, Nat.reduceLT, Nat.reduceEqDiff, Qnx, QnK, Qp, QK, QL, aBin, aLen, QT, Qnl, Qnm, Qnn, Qnq, Qno, Xh, goInt, Qnt, Qn6, Qnp, QH, ti3, ti22, un22, Xq, Xy, hk, QH, m2]) | (with_reducible (first | refine Qh fun K hK => ?_ | refine Ql ?_ | refine Qy ?_)) | ((with_reducible refine hK _ ?_); clear hK) | (refine Qk rfl ?_; simp only [↓reduceIte]))
      simp only [QI, Qm, Qu, upd, ↓reduceIte, Qnr, Qnv]; first | refine Qf (htake _ _) (.keep (.v _)) ⟨by rw [e], rfl⟩ | refine Qf List.take_length (.keep (.v _)) ⟨by rw [e], rfl⟩
  · have e : t.oper = 0 := by rw [T.oper, if_pos (.inl hk)]
    have m2 : (t.kind != 2) = true := by simpa using hk
    refine Qe Tryz.func68 rfl Tryz.call68 Tryz.ntmps68 (congrArg Array.toList Tryz.results68) (by simp) ?_
    rw [e1]
    repeat (first | (((with_reducible refine Qa fun K E hK hE => ?_)); simp -implicitDefEqProofs only [Qd, Qb, Qg, OpW, aop, undef, AS.ev, Qc, Qn, Qr, Qi, Qw, Qns, AV.QmP, QB, QnF, QnG, Qv, Qt, QC, QnH, QnI, ↓reduceIte, Qny, Qnz, Nat.reduceAdd, Nat.reduceLT, Nat.reduceEqDiff, Qnx, QnK, Qp, QK, QL, aBin, QT, Qnl, Qnm, Qnn, Qnq, Qno, Xh, beq_false, ti3, Xq, m2]) | (with_reducible (first | refine Qh fun K hK => ?_ | refine Ql ?_ | refine Qy ?_)) | ((with_reducible refine hK _ ?_); clear hK) | (refine Qk rfl ?_; simp only [↓reduceIte]))
    simp only [QI, Qm, Qu, upd, ↓reduceIte, Qnr, Qnv]; first | refine Qf (htake _ _) (.keep (.v _)) ⟨by rw [e], rfl⟩ | refine Qf List.take_length (.keep (.v _)) ⟨by rw [e], rfl⟩
end Go.Proofs.YtehjodmnajgdgaaGreatDoor.Ab
namespace Go.Proofs.YtehjodmnajgdgaaGreatDoor.Ab
abbrev DA := FuncId × List AV
def RelD (c : Cx) (d : DA) (x : Deferred) : Prop := ∃ caps, x.target = .fn (.func d.1) caps ∧ RelL c d.2 (x.args ++ caps)
theorem RelD.ev {c c' : Cx} (hs : St c) (h : Ev c c') {d : DA} {x : Deferred} (hr : RelD c d x) : RelD c' d x :=
  let ⟨caps, e, r⟩ := hr; ⟨caps, e, r.ev hs h⟩
inductive Ent where
  | mark (D : Nat)
  | call (d : DA) (x : Deferred)
def Ent.dfr : Ent → Deferred
  | .mark D => Qib D
  | .call _ x => x
def Ent.da : Ent → Option DA
  | .mark _ => none
  | .call d _ => some d
def Ent.mk? : Ent → Option Nat
  | .mark D => some D
  | .call _ _ => none
def Ent.ok (c : Cx) (lo : Nat) : Ent → Prop
  | .mark D => lo ≤ D ∧ c.w.heap[D]? = some (.deferred (some [])) ∧ ¬ c.owns D
  | .call d x => RelD c d x
theorem Ent.ok.ev {c c' : Cx} (hs : St c) (h : Ev c c') {lo : Nat} {e : Ent} (hk : e.ok c lo) : e.ok c' lo := by
  cases e with
  | mark D =>
    obtain ⟨h1, h2, h3⟩ := hk
    have hlt := (Array.getElem?_eq_some_iff.1 h2).1
    exact ⟨h1, (h.frame D hlt h3).trans h2, fun ho => h3 (h.owns hlt ho)⟩
  | call d x => exact RelD.ev hs h hk
def DefsOk (c : Cx) (lo : Nat) (ds : List DA) (l : List Deferred) : Prop :=
  ∃ es : List Ent, l = es.map Ent.dfr ∧ ds = es.filterMap Ent.da ∧ (es.filterMap Ent.mk?).Nodup ∧ ∀ e ∈ es, e.ok c lo
theorem DefsOk.ev {c c' : Cx} (hs : St c) (h : Ev c c') {lo : Nat} {ds : List DA} {l : List Deferred} (hd : DefsOk c lo ds l) : DefsOk c' lo ds l :=
  let ⟨es, h1, h2, h3, h4⟩ := hd; ⟨es, h1, h2, h3, fun e he => (h4 e he).ev hs h⟩
theorem Qkz (Ds : List Nat) : (Ds.map Ent.mark).map Ent.dfr = Ds.map Qib := by rw [List.map_map]; rfl
theorem Qlo (Ds : List Nat) : (Ds.map Ent.mark).filterMap Ent.da = [] := by
  induction Ds with
  | nil => rfl
  | cons D Ds ih => rw [List.map_cons, List.filterMap_cons, ih]; rfl
theorem Qlg (Ds : List Nat) : (Ds.map Ent.mark).filterMap Ent.mk? = Ds := by
  induction Ds with
  | nil => rfl
  | cons D Ds ih => rw [List.map_cons, List.filterMap_cons, ih]; rfl
theorem DefsOk.marks {c c' : Cx} (hs : St c) (h : Ev c c') {lo : Nat} {ds : List DA} {l l' : List Deferred} (hlo : lo ≤ c.w.heap.size) (hd : DefsOk c lo ds l) (hd' : DefOk c' ⟨c.w.heap.size, l⟩ l') : DefsOk c' lo ds l' := by
  obtain ⟨Ds, f1, f2, f3⟩ := hd'
  obtain ⟨es, e1, e2, e3, e4⟩ := hd
  refine ⟨Ds.map Ent.mark ++ es, ?_, ?_, ?_, ?_⟩
  · rw [f1, List.map_append, Qkz, e1]
  · rw [List.filterMap_append, Qlo, List.nil_append, e2]
  · rw [List.filterMap_append, Qlg, List.nodup_append]
    refine ⟨f2, e3, fun a ha b hb hab => ?_⟩
    subst hab
    have g1 := (f3 a ha).1
    simp only [List.mem_filterMap] at hb
    obtain ⟨e, he, hm⟩ := hb
    cases e with
    | call d x => cases hm
    | mark D =>
      simp only [Ent.mk?, Qnr] at hm
      subst hm
      have := (Array.getElem?_eq_some_iff.1 (e4 _ he).2.1).1
      simp only at g1
      omega
  · intro e he
    rcases List.mem_append.1 he with he | he
    · obtain ⟨D, hD, rfl⟩ := List.mem_map.1 he
      obtain ⟨g1, g2, g3⟩ := f3 D hD
      exact ⟨Nat.le_trans hlo g1, g2, g3⟩
    · exact (e4 e he).ev hs h
structure SRd (N lo : Nat) (c : Cx) (s : AS) (a : Act) (ds : List DA) : Prop where
  h : c.h = s.h
  size : a.tmps.size = N
  above : lo ≤ c.w.heap.size
  defs : DefsOk c lo ds a.defers
  tm : ∀ t, Rel c (s.tm t) (a.tmps.getD t undef)
theorem SRd.sr {N lo : Nat} {c : Cx} {s : AS} {a : Act} {ds : List DA} (h : SRd N lo c s a ds) {F : Fence} (hro : F.round = none) : SR N (⟨c.w.heap.size, a.defers⟩, F) c s a :=
  ⟨h.h, h.size, Nat.le_refl _, ⟨[], rfl, List.nodup_nil, fun D hD => by cases hD⟩, fun l hl => (by rw [hro] at hl; cases hl), h.tm⟩
theorem SRd.Qnc {N lo : Nat} {c c' : Cx} {s s' : AS} {a a' : Act} {ds : List DA} {F : Fence} (hs : St c) (h : SRd N lo c s a ds) (hev : Ev c c') (hr : SR N (⟨c.w.heap.size, a.defers⟩, F) c' s' a') : SRd N lo c' s' a' ds :=
  ⟨hr.h, hr.size, Nat.le_trans h.above hev.size, h.defs.marks hs hev h.above hr.defers, hr.tm⟩
def DefW (P : Program) (N : Nat) (code : Code) (Q : AExit → AS → List DA → Prop) (s : AS) (ds : List DA) : Prop :=
  ∀ (F : Fence) (n lo : Nat) (c : Cx) (a : Act), WF F → F.round = none → St c → SRd N lo c s a ds →
    ∀ R : Exit → Act → World → Prop, (∀ e s' ds' c' a' e', Q e s' ds' → Ev c c' → St c' → SRd N lo c' s' a' ds' → ExC c' e e' → R e' a' c'.w) → code.wpIn F n P R a c.w
section rules
variable {P : Program} {N : Nat} {Q : AExit → AS → List DA → Prop} {s : AS} {ds : List DA}
theorem XI {code : Code} (H : Yl P N code (fun e s' => Q e s' ds) s) : DefW P N code Q s ds := by
  intro F n lo c a hF hro hst hr R hR
  refine H F n ⟨c.w.heap.size, a.defers⟩ c a hF hst (hr.sr hro) R fun e s' c' a' e' hQ hev hst' hsr hex => ?_
  exact hR e s' ds c' a' e' hQ hev hst' (hr.Qnc hst hev hsr) hex
def AExit.Qnf (K : AS → List DA → Prop) (Q : AExit → AS → List DA → Prop) : AExit → AS → List DA → Prop
  | .normal, s, ds => K s ds
  | e, s, ds => Q e s ds
theorem X0 {x y : Code} (h : DefW P N x (AExit.Qnf (fun s ds => DefW P N y Q s ds) Q) s ds) : DefW P N (.seq x y) Q s ds := by
  intro F n lo c a hF hro hs hr R hR
  refine wpIn_seq (h F n lo c a hF hro hs hr _ ?_)
  intro e s' ds' c' a' e' hQ hev hst hsr hex
  cases e with
  | normal =>
    cases hex
    exact hQ F n lo c' a' hF hro hst hsr R fun e s2 ds2 c2 a2 e2 hQ2 hev2 hst2 hsr2 hex2 => hR e s2 ds2 c2 a2 e2 hQ2 (Ev.trans hs hev hev2) hst2 hsr2 hex2
  | exit id => cases hex; exact hR _ s' ds' c' a' _ hQ hev hst hsr rfl
  | ret => cases hex; exact hR _ s' ds' c' a' _ hQ hev hst hsr rfl
  | panic av => obtain ⟨x, rfl, hx⟩ := hex; exact hR _ s' ds' c' a' _ hQ hev hst hsr ⟨x, rfl, hx⟩
theorem Qj3 {o : Operand} {x y : Code} {t : Bool} (ho : s.ev o = .v (.bool t)) (h : DefW P N (if t then x else y) Q s ds) : DefW P N (.cond o x y) Q s ds := by
  intro F n lo c a hF hro hs hr R hR
  have he := (hr.sr hro).eval o
  rw [ho] at he
  have hx : a.eval o = .bool t := by
    generalize a.eval o = u at he
    cases he; rfl
  exact wpIn_cond hx (h F n lo c a hF hro hs hr R hR)
theorem QbQ {id : Nat} {ops : Array Oper} (i : Nat) {o : Oper} {cl : Call} {f : Operand} (ho : ops.toList[i]? = some o) (hop : o.op = .defer cl) (hcl : cl.callee = .value f)
    (H : OpsW P N ops (ops.toList.take i) (fun s1 => Qg ops s1.tm o = some true ∧ ∃ g first cap, s1.ev f = .fn (.func g) first cap ∧
      OpsW P N ops (ops.toList.drop (i + 1)) (fun s2 => Q .normal s2 ((g, first ++ cl.args.toList.map s1.ev ++ cap) :: ds)) (fun r s2 => Q (.panic r) s2 ((g, first ++ cl.args.toList.map s1.ev ++ cap) :: ds)) (AS.put N s1 o.dst (.v undef)))
      (fun r s1 => Q (.panic r) s1 ds) s) : DefW P N (.region id ops false) Q s ds := by
  intro F n lo c a hF hro hst hr R hR
  refine wpIn_region ?_
  have hlt := QN ho
  have hi : (ops.toList.take i).length = i := by rw [List.length_take]; omega
  have hrange : List.range ops.size = List.range' 0 (ops.toList.take i).length ++ (i :: (List.range' (i + 1) (ops.toList.drop (i + 1)).length ++ [])) := by
    rw [hi, List.append_nil, List.length_drop, List.range_eq_range', ← Array.length_toList]
    have : ops.toList.length = i + (1 + (ops.toList.length - (i + 1))) := by omega
    conv => lhs; rw [this]
    rw [← List.range'_append_1, Nat.zero_add, ← List.range'_append_1]
    rfl
  have hget : ∀ j, (ops.toList.drop (i + 1))[j]? = ops[i + 1 + j]? := fun j => by rw [List.getElem?_drop]; simp
  rw [hrange]
  refine QcI hF (ops.toList.take i) 0 s c a (fun j hj => by rw [List.getElem?_take, if_pos (by omega)]; simp) H hst (hr.sr hro) ?_ ?_
  · intro s1 c1 a1 h1 h2 h3 h4
    have h0 : ops[i]? = some o := by rw [← ho]; simp
    obtain ⟨hw, g, first, cap, hf, hpost⟩ := h1
    simp only [wpOpsIn, h0]
    rw [XF h4 hw]
    simp only [if_true]
    have hr1 := hr.Qnc hst h2 h4
    have hfv := h4.eval f
    rw [hf] at hfv
    obtain ⟨vs, ws, hae, hv1, hv2⟩ : ∃ vs ws, a1.eval f = .func (.func g) vs ws ∧ RelL c1 first vs ∧ RelL c1 cap ws := by
      generalize a1.eval f = u at hfv
      cases hfv with
      | fn _ _ _ vs ws e1 e2 g1 g2 => exact ⟨vs, ws, rfl, ⟨e1, g1⟩, ⟨e2, g2⟩⟩
    have hargs : RelL c1 (cl.args.toList.map s1.ev) (cl.args.map a1.eval) := by
      refine ⟨by simp, fun j x u hx hu => ?_⟩
      rw [List.getElem?_map] at hx
      rw [Array.getElem?_map] at hu
      cases hj : cl.args[j]? with
      | none => simp [hj] at hu
      | some q =>
        simp only [hj, Qnn, Qnr] at hu
        simp only [Array.getElem?_toList, hj, Qnn, Qnr] at hx
        subst hx; subst hu
        exact h4.eval q
    have hD : RelD c1 (g, first ++ cl.args.toList.map s1.ev ++ cap) ⟨.fn (.func g) ws, vs ++ cl.args.map a1.eval⟩ := ⟨ws, rfl, RelL.append (RelL.append hv1 hargs) hv2⟩
    have hrun : (execOp a1.eval o).run P c1.w = .ok (.defer ⟨.fn (.func g) ws, vs ++ cl.args.map a1.eval⟩) c1.w := by
      simp only [execOp, hop, resolve, hcl, hae, Deferred.ofValue, Sem.run_bind, Sem.run_pure, Result.andThen_ok]
    refine ⟨fun f _ => hF.fn f, ?_⟩
    rw [hro, Oper.semAt_none, hrun, Oper.uponIn_defer]
    have hput := h4.put h3 (Ev.refl c1) o.dst (.v undef)
    rw [h4.h] at hput
    have hd2 : DefsOk c1 lo ((g, first ++ cl.args.toList.map s1.ev ++ cap) :: ds) (⟨.fn (.func g) ws, vs ++ cl.args.map a1.eval⟩ :: a1.defers) := by
      obtain ⟨es, e1, e2, e3, e4⟩ := hr1.defs
      refine ⟨.call _ ⟨.fn (.func g) ws, vs ++ cl.args.map a1.eval⟩ :: es, by rw [e1]; rfl, by rw [e2]; rfl, e3, fun e he => ?_⟩
      rcases List.mem_cons.1 he with rfl | he
      · exact hD
      · exact e4 e he
    have hdf : ((({ a1 with defers := ⟨.fn (.func g) ws, vs ++ cl.args.map a1.eval⟩ :: a1.defers } : Act).put o.dst undef)).defers = ⟨.fn (.func g) ws, vs ++ cl.args.map a1.eval⟩ :: a1.defers := by
      cases o.dst <;> rfl
    have htm : ((({ a1 with defers := ⟨.fn (.func g) ws, vs ++ cl.args.map a1.eval⟩ :: a1.defers } : Act).put o.dst undef)).tmps = (a1.put o.dst undef).tmps := by
      cases o.dst <;> rfl
    have hr2 : SRd N lo c1 (AS.put N s1 o.dst (.v undef)) (({ a1 with defers := ⟨.fn (.func g) ws, vs ++ cl.args.map a1.eval⟩ :: a1.defers } : Act).put o.dst undef) ((g, first ++ cl.args.toList.map s1.ev ++ cap) :: ds) :=
      ⟨hput.h, by rw [htm]; exact hput.size, hr1.above, by rw [hdf]; exact hd2, fun t => by rw [htm]; exact hput.tm t⟩
    refine QcI hF _ (i + 1) _ c1 _ (fun j _ => hget j) hpost h3 (hr2.sr hro) ?_ ?_
    · intro s' c' a' hQ k1 k2 k3
      simp only [wpOpsIn]
      exact hR _ s' _ c' a' _ hQ (Ev.trans hst h2 k1) k2 (hr2.Qnc h3 k1 k3) rfl
    · intro r s' c' a' x hQ k1 k2 k3 hx
      exact hR _ s' _ c' a' _ hQ (Ev.trans hst h2 k1) k2 (hr2.Qnc h3 k1 k3) ⟨x, rfl, hx⟩
  · intro r s' c' a' x hQ h1 h2 h3 hx
    exact hR _ s' ds c' a' _ hQ h1 h2 (hr.Qnc hst h1 h3) ⟨x, rfl, hx⟩
end rules
inductive AMode where
  | ret
  | pan (v : AV) (recovered : Bool)
def MdC (c : Cx) : AMode → FrameMode → Prop
  | .ret, u => u = .returning
  | .pan v b, u => ∃ x, u = .panicking [{ v := x, recovered := b }] ∧ Rel c v x
theorem MdC.ev {c c' : Cx} (hs : St c) (h : Ev c c') {m : AMode} {u : FrameMode} (hm : MdC c m u) : MdC c' m u := by
  cases m with
  | ret => exact hm
  | pan v b => obtain ⟨x, e, r⟩ := hm; exact ⟨x, e, r.ev hs h⟩
theorem MdC.run {c : Cx} {m : AMode} {u : FrameMode} (hm : MdC c m u) : u ≠ .run := by
  cases m with
  | ret => rw [show u = .returning from hm]; simp
  | pan v b => obtain ⟨x, e, r⟩ := hm; rw [e]; simp
def AMode.settle : AMode → AMode
  | .pan _ true => .ret
  | m => m
theorem MdC.settle {c : Cx} {m : AMode} {u : FrameMode} (hm : MdC c m u) : MdC c m.settle (Go.settle u) := by
  cases m with
  | ret => rw [show u = .returning from hm]; rfl
  | pan v b =>
    obtain ⟨x, rfl, r⟩ := hm
    cases b with
    | true => rfl
    | false => exact ⟨x, rfl, r⟩
def Zx (P : Program) (f : FuncId) (args : List AV) (h : AH) (m : AMode) (Q : AMode → AH → Prop) : Prop :=
  (∀ vals w, (callFunc f vals).run P w = .ok (.enter f vals) w) ∧
  ∀ (F : Fence) (n : Nat) (c : Cx) (vals : Array Value) (u : FrameMode), WF F → F.round = none → St c → c.h = h → RelL c args vals → MdC c m u →
    CallsDIn F n P f vals u c.w fun e u' w' => ∃ x m' c', e = .returned x ∧ Q m' c'.h ∧ Ev c c' ∧ St c' ∧ c'.w = w' ∧ MdC c' m' u'
def Qdn (P : Program) (rs : List ResultVar) (h : AH) (Q : AOut → AH → Prop) : List DA → AMode → AS → Prop
  | [], .ret, s => QI P rs h Q .ret s
  | [], .pan v _, s => QI P rs h Q (.panic v) s
  | d :: ds, m, s => Zx P d.1 d.2 s.h m fun m' h' => Qdn P rs h Q ds m'.settle ⟨s.tm, h'⟩
structure Out (N : Nat) (c : Cx) (s : AS) (tmps : Array Value) : Prop where
  h : c.h = s.h
  size : tmps.size = N
  tm : ∀ t, Rel c (s.tm t) (tmps.getD t undef)
theorem Qae {P : Program} {F : Fence} (hF : WF F) (hro : F.round = none) {n : Nat} {fn : Func} {tmps : Array Value} {rs : List ResultVar} (hrs : fn.results.toList = rs) {Q : AOut → AH → Prop} {c0 : Cx} (hs0 : St c0) :
    ∀ (es : List Ent) (c : Cx) (s : AS) (m : AMode) (u : FrameMode), Ev c0 c → St c → Out fn.ntmps c s tmps → (es.filterMap Ent.mk?).Nodup → (∀ e ∈ es, e.ok c c0.w.heap.size) → MdC c m u → (∀ v, m ≠ .pan v true) →
      Qdn P rs c0.h Q (es.filterMap Ent.da) m s →
      LeavesInM F n P fn tmps (fun e w' => ∃ o c', Q o c'.h ∧ Ev c0 c' ∧ St c' ∧ c'.w = w' ∧ EndC c' o e) (es.map Ent.dfr) u c.w
  | [], c, s, m, u, hev, hst, hout, _, _, hm, hnr, H => by
    have hsr : SR fn.ntmps (⟨0, []⟩, F) c s { tmps := tmps, defers := [] } := ⟨hout.h, hout.size, Nat.zero_le _, ⟨[], rfl, List.nodup_nil, fun D h => by cases h⟩, fun l hl => (by rw [hro] at hl; cases hl), hout.tm⟩
    cases m with
    | ret =>
      rw [show u = .returning from hm]
      obtain ⟨r, hres, hl⟩ := (show QI P rs c0.h Q .ret s from H)
      subst hrs
      obtain ⟨x, hrun, hx⟩ := QaG hst hsr hres
      rw [← hout.h] at hl
      obtain ⟨c3, r', h1, h2, h3, h4, h5⟩ := Zs hs0 hst hev hx hl
      exact ⟨x, hrun, .ret r', c3, h1, h2, h3, h4, x, rfl, h5⟩
    | pan v b =>
      obtain ⟨x, rfl, hx⟩ := hm
      have hl : Leaves c0.h s.h v fun r h' => Q (.panic r) h' := H
      rw [← hout.h] at hl
      obtain ⟨c3, r', h1, h2, h3, h4, h5⟩ := Zs hs0 hst hev hx hl
      cases b with
      | true => exact absurd rfl (hnr v)
      | false => exact ⟨.panic r', c3, h1, h2, h3, h4, x, rfl, h5⟩
  | .mark D :: es, c, s, m, u, hev, hst, hout, hnd, hok, hm, hnr, H => by
    obtain ⟨hD1, hD2, hD3⟩ := hok (.mark D) (by simp)
    simp only [QnA, LeavesInM]
    refine ⟨hm.run, .inl ⟨D, _, rfl, Y7 hD2, ?_⟩⟩
    have hnd' := List.nodup_cons.1 (show (D :: es.filterMap Ent.mk?).Nodup from hnd)
    have hold : ∀ k, k ≠ D → ({ c.w with heap := c.w.heap.setIfInBounds D (.deferred none) } : World).heap[k]? = c.w.heap[k]? := fun k hk => by
      show (c.w.heap.setIfInBounds D _)[k]? = _
      rw [Array.getElem?_setIfInBounds_ne (fun e => hk e.symm)]
    have hsz : ({ c.w with heap := c.w.heap.setIfInBounds D (.deferred none) } : World).heap.size = c.w.heap.size := by simp
    have hidle : ∀ k, ({ c.w with heap := c.w.heap.setIfInBounds D (.deferred none) } : World).heap[k]? = c.w.heap[k]? ∨ (c0.w.heap.size ≤ k ∧ ¬ c.owns k ∧ ∃ o, c.w.heap[k]? = some (.deferred o)) := fun k => by
      by_cases hk : k = D
      · subst hk; exact .inr ⟨hD1, hD3, _, hD2⟩
      · exact .inl (hold k hk)
    have hcells : ∀ (k : Nat) cs t fr, c.w.heap[k]? = some (Obj.cells cs t fr) → ({ c.w with heap := c.w.heap.setIfInBounds D (.deferred none) } : World).heap[k]? = c.w.heap[k]? := fun k cs t fr hk => by
      rcases hidle k with h | ⟨_, _, o, h⟩
      · exact h
      · rw [hk] at h; cases h
    have hst2 := hst.idle hsz fun k o hk => by
      rcases hidle k with h | ⟨_, _, d, h⟩
      · exact .inl (h.trans hk)
      · rw [hk] at h; cases h; exact .inr ⟨d, rfl⟩
    have hrel : ∀ a x, Rel c a x → Rel (c.to { c.w with heap := c.w.heap.setIfInBounds D (.deferred none) }) a x := fun a x hax => hax.idle hsz hcells
    refine Qae hF hro hrs hs0 es (c.to _) s m u (Ev.idle hst hev rfl rfl rfl hsz hidle) hst2 ⟨hout.h, hout.size, fun t => hrel _ _ (hout.tm t)⟩ hnd'.2 (fun e he => ?_) ?_ hnr H
    · have := hok e (by simp [he])
      cases e with
      | mark D' =>
        obtain ⟨g1, g2, g3⟩ := this
        have hne : D' ≠ D := fun h => hnd'.1 (by subst h; exact List.mem_filterMap.2 ⟨_, he, rfl⟩)
        exact ⟨g1, (hold D' hne).trans g2, g3⟩
      | call d x =>
        obtain ⟨caps, e, r⟩ := this
        exact ⟨caps, e, r.1, fun j a u h1 h2 => hrel _ _ (r.2 j a u h1 h2)⟩
    · cases m with
      | ret => exact hm
      | pan v b => obtain ⟨x, e, r⟩ := hm; exact ⟨x, e, hrel _ _ r⟩
  | .call d x :: es, c, s, m, u, hev, hst, hout, hnd, hok, hm, hnr, H => by
    obtain ⟨caps, htar, hargs⟩ := hok (.call d x) (by simp)
    obtain ⟨hcall, hbody⟩ := (show Zx P d.1 d.2 s.h m fun m' h' => Qdn P rs c0.h Q (es.filterMap Ent.da) m'.settle ⟨s.tm, h'⟩ from H)
    simp only [QnA, LeavesInM, Ent.dfr]
    refine ⟨hm.run, .inr ⟨fun hd => by simp [hF.depth] at hd, _, _, d.1, x.args ++ caps, htar, by rw [htar]; simp only [invoke, hcall], fun _ _ => hF.fn _, ?_⟩⟩
    refine (hbody F (n - 1) c _ u hF hro hst hout.h hargs hm).mono ?_
    rintro e u' w' ⟨y, m', c', rfl, hQ, hev', hst', rfl, hm'⟩
    refine Qae hF hro hrs hs0 es c' ⟨s.tm, c'.h⟩ m'.settle (Go.settle u') (Ev.trans hs0 hev hev') hst' ⟨rfl, hout.size, fun t => (hout.tm t).ev hst hev'⟩ hnd (fun e he => (hok e (by simp [he])).ev hst hev') hm'.settle (fun v h => ?_) hQ
    cases m' with
    | ret => cases h
    | pan v' b => cases b <;> cases h
def Qf2 (P : Program) (rs : List ResultVar) (h : AH) (Q : AOut → AH → Prop) : AExit → AS → List DA → Prop
  | .normal, s, ds | .ret, s, ds => Qdn P rs h Q ds .ret s
  | .panic v, s, ds => Qdn P rs h Q ds (.pan v false) s
  | .exit _, _, _ => False
theorem Zj {P : Program} {f : FuncId} {fn : Func} {code : Code} {args : List AV} {h : AH} {Q : AOut → AH → Prop} (hf : P.funcs[f]? = some fn) (hb : fn.body = some code)
    (hcall : ∀ vals w, (callFunc f vals).run P w = .ok (.enter f vals) w) {N : Nat} (hN : fn.ntmps = N) {rs : List ResultVar} (hrs : fn.results.toList = rs) (hn : args.length ≤ N) (H : DefW P N code (Qf2 P rs h Q) ⟨Qw args, h⟩ []) : Xd P f args h Q := by
  subst hN
  refine ⟨hcall, fun F n c vals hF hs hh hvals => QaJ ?_⟩
  subst hh
  refine callsIn_of_wp_marks hf hb (hF.plain.fn f) ?_
  have hsr : SRd fn.ntmps c.w.heap.size c ⟨Qw args, c.h⟩ { tmps := vals ++ Array.replicate (fn.ntmps - vals.size) undef, defers := [] } [] := by
    refine ⟨rfl, by have := hvals.1; simp; omega, Nat.le_refl _, ⟨[], rfl, rfl, List.nodup_nil, fun e h => by cases h⟩, fun t => ?_⟩
    simp only [Qw]
    rw [Array.getD_eq_getD_getElem?, Array.getElem?_append, List.getD_eq_getElem?_getD]
    have hsz := hvals.1
    by_cases ht : t < vals.size
    · rw [if_pos ht]
      obtain ⟨u, hu⟩ : ∃ u, vals[t]? = some u := ⟨_, Array.getElem?_eq_getElem ht⟩
      obtain ⟨a, ha⟩ : ∃ a, args[t]? = some a := ⟨_, List.getElem?_eq_getElem (by omega)⟩
      rw [hu, ha]
      exact hvals.2 t a u ha hu
    · rw [if_neg ht, List.getElem?_eq_none (by omega), Array.getElem?_replicate]
      split
      · exact .v _
      · exact .v _
  refine H F.plain n c.w.heap.size c _ hF.plain rfl hs hsr _ ?_
  intro e s' ds' c' a' e' hQ hev hst hr hex
  obtain ⟨es, e1, e2, e3, e4⟩ := hr.defs
  subst e2
  have hout : Out fn.ntmps c' s' a'.tmps := ⟨hr.h, hr.size, hr.tm⟩
  have key := fun (m : AMode) (u : FrameMode) (hm : MdC c' m u) (hnr : ∀ v, m ≠ .pan v true) H => e1 ▸ Qae (P := P) hF.plain rfl (n := n) (fn := fn) (tmps := a'.tmps) hrs (Q := Q) hs es c' s' m u hev hst hout e3 e4 hm hnr H
  cases e with
  | normal => cases hex; exact key .ret .returning rfl (fun v h => by cases h) hQ
  | ret => cases hex; exact key .ret .returning rfl (fun v h => by cases h) hQ
  | panic av =>
    obtain ⟨x, rfl, hx⟩ := hex
    exact key (.pan av false) _ ⟨x, rfl, hx⟩ (fun v h => by cases h) hQ
  | exit id => exact hQ.elim
theorem YS {P : Program} {F : Fence} {n : Nat} {fn : Func} {tmps : Array Value} {R : Ending → World → Prop} : ∀ (ds : List Deferred) (u : FrameMode) (w : World) (fr : Frame)
    (cs : List Frame), fr.mode = u → fr.defers = ds → fr.tmps = tmps → P.funcs[fr.fn]? = some fn → fr.kind = .deferred → F.fn fr.fn → F.room (cs.length + 1 + n) → LeavesInM F n P fn tmps R ds u w →
    ∃ e w' fr', R e w' ∧ ComesIn (Machine.fenced P F) P (lone fr cs w) (lone fr' cs w') e ∧ fr'.fn = fr.fn ∧ fr'.kind = .deferred ∧ fr'.going P w' e := by
  intro ds
  induction ds with
  | nil =>
    intro u w fr cs hu hd ht hf hk _ _ h
    cases u with
    | run => exact h.elim
    | returning =>
      obtain ⟨v, hr, hR⟩ := h
      exact ⟨.returned v, w, fr, hR, StepsIn.refl _, rfl, hk, hu, hd, fn, hf, ht ▸ hr⟩
    | panicking chain => exact ⟨.panicked chain, w, fr, h, StepsIn.refl _, rfl, hk, hu, hd, fn, hf⟩
  | cons d ds ih =>
    intro u w fr cs hu hd ht hf hk hb hroom h
    obtain ⟨hrun, h⟩ := h
    rcases h with ⟨r, w', htar, htake, hrest⟩ | ⟨hn, fv, cap, f, args, htar, hinv, hlead, hFf, hcall⟩
    · have h1 := step_collected (cs := cs) (hu ▸ hrun) hd htar htake
      have i1 : (lone fr cs w).fenced P F := fenced_out hb hroom (hu ▸ hrun) hd (fun g hg => by rw [htar] at hg; simp [Target.leads] at hg)
      obtain ⟨e', w'', fr', hR', hs', hfn', hl'⟩ := ih u w' { fr with defers := [] ++ ds } cs hu rfl ht hf hk hb hroom hrest
      exact ⟨e', w'', fr', hR', ComesIn.of_steps (.one i1 h1) hs', hfn', hl'⟩
    · have h1 := step_defer (cs := cs) (hu ▸ hrun) hd htar hinv
      have i1 : (lone fr cs w).fenced P F := fenced_out hb hroom (hu ▸ hrun) hd hlead
      have hroom' : F.room (({ fr with defers := ds } :: cs).length + 1 + (n - 1)) := Fence.room_enter hroom hn
      obtain ⟨e, u', w', frX, hR, hsteps, hkX, hfX, hgo⟩ := hcall { fr with defers := ds } cs hu hroom'
      cases e with
      | outgrown => exact ⟨.outgrown, w', fr, hR, Outgrown.of_steps (.one h1) hsteps, rfl, hk, trivial⟩
      | returned v =>
        have i2 : (lone frX ({ { fr with defers := ds } with mode := u' } :: cs) w').fenced P F := fenced_going (n := n - 1) (hfX ▸ hFf) hroom' hgo
        have h2 := step_going_returned (c := { { fr with defers := ds } with mode := u' }) (cs := cs) hkX hgo
        obtain ⟨e', w'', fr', hR', hs', hfn', hl'⟩ := ih (Go.settle u') w' { { { fr with defers := ds } with mode := u' } with mode := Go.settle u' } cs rfl rfl ht hf hk hb hroom hR
        exact ⟨e', w'', fr', hR', ComesIn.of_steps (.head i1 h1 (StepsIn.trans hsteps (.one i2 h2))) hs', hfn', hl'⟩
      | panicked chain =>
        have i2 : (lone frX ({ { fr with defers := ds } with mode := u' } :: cs) w').fenced P F := fenced_going (n := n - 1) (hfX ▸ hFf) hroom' hgo
        have h2 := step_going_panicked (c := { { fr with defers := ds } with mode := u' }) (cs := cs) hgo
        obtain ⟨e', w'', fr', hR', hs', hfn', hl'⟩ := ih (raised u' chain) w' { { { fr with defers := ds } with mode := u' } with mode := raised u' chain } cs rfl rfl ht hf hk hb hroom hR
        exact ⟨e', w'', fr', hR', ComesIn.of_steps (.head i1 h1 (StepsIn.trans hsteps (.one i2 h2))) hs', hfn', hl'⟩
theorem QbB {P : Program} {F : Fence} {n : Nat} {f : FuncId} {fn : Func} {c : Code} {args : Array Value} {u : FrameMode} {w : World} {R : Ending → World → Prop}
    (hf : P.funcs[f]? = some fn) (hb : fn.body = some c) (hF : F.fn f)
    (h : c.wpIn F n P (bodyPostM F n P fn R) { tmps := args ++ Array.replicate (fn.ntmps - args.size) undef, defers := [] } w) (hro : F.round = none) :
    CallsDIn F n P f args u w fun e u' w' => u' = u ∧ R e w' := by
  refine ⟨hF, fun c₀ cs hu hr => ?_⟩
  let b : Frame := { (default : Frame) with fn := f, kind := .deferred, roundOf := none }
  have henter : Frame.enter P f args .deferred =
      b.atR { tmps := args ++ Array.replicate (fn.ntmps - args.size) undef, defers := [] } [.code c] := by
    simp [Frame.enter, Frame.atR, hf, hb, b]
  have hc : ({ c₀ with mode := u } : Frame) = c₀ := by subst hu; rfl
  obtain ⟨e, a', w', hq, harr⟩ := h b [] (c₀ :: cs) hro.symm hF hr
  rw [← henter] at harr
  cases e with
  | normal =>
    obtain ⟨e', w'', fr', hR, hs, hfn, hk, hl⟩ := YS a'.defers .returning w' { b.atR a' [] with mode := .returning } (c₀ :: cs) rfl rfl rfl hf rfl hF hr hq
    exact ⟨e', u, w'', fr', ⟨rfl, hR⟩, (by rw [hc]; exact ComesIn.of_steps (StepsIn.trans harr (.one (fenced_calm (fr := b.atR a' []) hF hr rfl) (stepR_end rfl))) hs), hk, hfn, hl⟩
  | ret =>
    obtain ⟨todo, hs₀⟩ := harr.1 rfl
    obtain ⟨e', w'', fr', hR, hs, hfn, hk, hl⟩ := YS a'.defers .returning w' { b.atR a' todo with mode := .returning } (c₀ :: cs) rfl rfl rfl hf rfl hF hr hq
    exact ⟨e', u, w'', fr', ⟨rfl, hR⟩, (by rw [hc]; exact ComesIn.of_steps hs₀ hs), hk, hfn, hl⟩
  | panic chain =>
    obtain ⟨todo, hs₀⟩ := harr
    obtain ⟨e', w'', fr', hR, hs, hfn, hk, hl⟩ := YS a'.defers (.panicking chain) w' { b.atR a' todo with mode := .panicking chain } (c₀ :: cs) rfl rfl rfl hf rfl hF hr hq
    exact ⟨e', u, w'', fr', ⟨rfl, hR⟩, (by rw [hc]; exact ComesIn.of_steps hs₀ hs), hk, hfn, hl⟩
  | exit id => exact hq.elim
  | goto l => exact hq.elim
  | outgrown => exact ⟨.outgrown, u, w', b, ⟨rfl, hq⟩, harr.resolve_left (by simp [b]), rfl, rfl, trivial⟩
theorem Qez {P : Program} {f : FuncId} {fn : Func} {code : Code} {args : List AV} {h : AH} {Q : AH → Prop} (hf : P.funcs[f]? = some fn) (hb : fn.body = some code)
    (hcall : ∀ vals w, (callFunc f vals).run P w = .ok (.enter f vals) w) {N : Nat} (hN : fn.ntmps = N) {rs : List ResultVar} (hrs : fn.results.toList = rs) (hn : args.length ≤ N)
    (H : DefW P N code (Qf2 P rs h fun o h' => (∃ r, o = .ret r) ∧ Q h') ⟨Qw args, h⟩ []) (m : AMode) : Zx P f args h m fun m' h' => m' = m ∧ Q h' := by
  subst hN
  refine ⟨hcall, fun F n c vals u hF hro hs hh hvals hm => ?_⟩
  subst hh
  refine (QbB (R := fun e w' => ∃ (o : AOut) (c' : Cx), ((∃ r, o = AOut.ret r) ∧ Q c'.h) ∧ Ev c c' ∧ St c' ∧ c'.w = w' ∧ EndC c' o e) hf hb (hF.fn f) ?_ hro).mono ?_
  · have hsr : SRd fn.ntmps c.w.heap.size c ⟨Qw args, c.h⟩ { tmps := vals ++ Array.replicate (fn.ntmps - vals.size) undef, defers := [] } [] := by
      refine ⟨rfl, by have := hvals.1; simp; omega, Nat.le_refl _, ⟨[], rfl, rfl, List.nodup_nil, fun e h => by cases h⟩, fun t => ?_⟩
      simp only [Qw]
      rw [Array.getD_eq_getD_getElem?, Array.getElem?_append, List.getD_eq_getElem?_getD]
      have hsz := hvals.1
      by_cases ht : t < vals.size
      · rw [if_pos ht]
        obtain ⟨u, hu⟩ : ∃ u, vals[t]? = some u := ⟨_, Array.getElem?_eq_getElem ht⟩
        obtain ⟨a, ha⟩ : ∃ a, args[t]? = some a := ⟨_, List.getElem?_eq_getElem (by omega)⟩
        rw [hu, ha]
        exact hvals.2 t a u ha hu
      · rw [if_neg ht, List.getElem?_eq_none (by omega), Array.getElem?_replicate]
        split
        · exact .v _
        · exact .v _
    refine H F n c.w.heap.size c _ hF hro hs hsr _ ?_
    intro e s' ds' c' a' e' hQ hev hst hr hex
    obtain ⟨es, e1, e2, e3, e4⟩ := hr.defs
    subst e2
    have hout : Out fn.ntmps c' s' a'.tmps := ⟨hr.h, hr.size, hr.tm⟩
    have key := fun (m : AMode) (u : FrameMode) (hm : MdC c' m u) (hnr : ∀ v, m ≠ .pan v true) H => e1 ▸ Qae (P := P) hF hro (n := n) (fn := fn) (tmps := a'.tmps) hrs (Q := fun o h' => (∃ r, o = AOut.ret r) ∧ Q h') hs es c' s' m u hev hst hout e3 e4 hm hnr H
    cases e with
    | normal => cases hex; exact key .ret .returning rfl (fun v h => by cases h) hQ
    | ret => cases hex; exact key .ret .returning rfl (fun v h => by cases h) hQ
    | panic av =>
      obtain ⟨x, rfl, hx⟩ := hex
      exact key (.pan av false) _ ⟨x, rfl, hx⟩ (fun v h => by cases h) hQ
    | exit id => exact hQ.elim
  · rintro e u' w' ⟨rfl, o, c', ⟨⟨r, rfl⟩, hQ⟩, hev, hst', rfl, x, rfl, hx⟩
    exact ⟨x, m, c', rfl, ⟨rfl, hQ⟩, hev, hst', rfl, hm.ev hs hev⟩
theorem Qe2 {P : Program} {f : FuncId} {fn : Func} {code : Code} {args : List AV} {h : AH} {Q : AH → Prop} (hf : P.funcs[f]? = some fn) (hb : fn.body = some code)
    (hcall : ∀ vals w, (callFunc f vals).run P w = .ok (.enter f vals) w) {N : Nat} (hN : fn.ntmps = N) {rs : List ResultVar} (hrs : fn.results.toList = rs) (hn : args.length ≤ N)
    (H : Yl P N code (QI P rs h fun o h' => (∃ r, o = .ret r) ∧ Q h') ⟨Qw args, h⟩) (m : AMode) : Zx P f args h m fun m' h' => m' = m ∧ Q h' :=
  Qez hf hb hcall hN hrs hn (XI (H.mono fun e s hq => by cases e <;> exact hq)) m
end Go.Proofs.YtehjodmnajgdgaaGreatDoor.Ab
set_option maxRecDepth 4000
namespace Go.Proofs.YtehjodmnajgdgaaGreatDoor.Ab
open Go.Proofs
def HB (h : AH) (i j : Nat) (u : Bool) (tx : ByteArray) : AH := hs2 h i (bw 71 i j u tx) j (.grow 5 1 tx.size)
theorem wTy : BTy 71 := .inr rfl
abbrev lpa : ByteArray := { data := #[40] }
abbrev rpa : ByteArray := { data := #[41] }
def encB (b : Bool) (x : ByteArray) : ByteArray := if b then lpa ++ x ++ rpa else x
theorem Zx.mono {P : Program} {f : FuncId} {args : List AV} {h : AH} {m : AMode} {Q Q' : AMode → AH → Prop} (H : Zx P f args h m Q) (hq : ∀ m' h', Q m' h' → Q' m' h') : Zx P f args h m Q' :=
  ⟨H.1, fun F n c vals u hF hro hs hh hvals hm => (H.2 F n c vals u hF hro hs hh hvals hm).mono fun e u' w' ⟨x, m', c', h1, h2, h3⟩ => ⟨x, m', c', h1, hq _ _ h2, h3⟩⟩
theorem QfB {h : AH} {i j : Nat} (hi : i < h.length) (hj : j < h.length) (hij : i ≠ j) (u : Bool) (tx : ByteArray) (b : UInt8) (hs : tx.size < 140737488355328) (m : AMode) :
    Zx Tryz.prog 110 [.ptr i 0 0, .v (.int .u8 (b.toNat : Nat))] (HB h i j u tx) m fun m' h' => m' = m ∧ h' = HB h i j true (tx ++ { data := #[b] }) := by
  have f1 := fun x y => YP h i x j y
  have f2 := fun x y => YM (h := h) hi hij x y
  have f3 := fun x y z => QdD (h := h) (i := i) (j := j) hij x y z
  have f5 := fun x y z => QdE (h := h) (i := i) (j := j) x y z
  have f7 := fun x y => Qbx (h := h) (i := i) hj x y
  have c1 := QaD wTy hij u tx h hi hj
  have e1 : Xo (tx ++ { data := #[b] }) = Xo tx ++ [.v (.int .u8 (b.toNat : Nat))] := Z6 tx _
  have e2 : (tx ++ ({ data := #[b] } : ByteArray)).size = tx.size + 1 := QE _ _
  have hs' : tx.size + 1 ≤ 140737488355328 := hs
  have hm : tx.size + 1 ≤ maxLen := by simp only [maxLen]; omega
  refine Qe2 Tryz.func110 rfl Tryz.call110 Tryz.ntmps110 (congrArg Array.toList Tryz.results110) (by simp) ?_ m
  rw [HB, HB, bw1, e1, e2]
  repeat (first | ((first | (with_reducible (first | refine Qa fun K E hK hE => ?_ | refine FunW.ret (FunW.call c1) ?_))); simp -implicitDefEqProofs only [Qd, Qb, Qg, OpW, QO, aop, undef, AS.ev, Qc, QV, Xz, Qi, Qw, Qns, QnL, AV.QmP, QB, QU, Yf, QJ, QaM, QnF, QnG, Qv, QC, QnH, ↓reduceIte, Qny, Qnz, Nat.reduceAdd, Nat.reduceLT, Nat.reduceLeDiff, Nat.reduceEqDiff, Qnx, QnT, Qp, QK, QL, Q5, QW, QP, Za, YK, Qnl, Qnm, QnP, Qnn, QnA, QnE, QnN, QnM, QnO, Qnw, QnD, Qnu, QnC, Qnt, Qnp, rng1, Q2, Nat.reducePow, zi5, ti67, ei67, ai67, Qh9, QX, f2, f3, f5, f7, bw1, X1, hm, hs', Nat.mul_one]) | (with_reducible refine Ql ?_) | ((with_reducible refine hK _ ?_); clear hK))
  simp -implicitDefEqProofs only [Qi, ↓reduceIte, Qnr, QI, Qm, Qu, Qnv]
  exact .inr ⟨⟨_, rfl⟩, rfl⟩
theorem QaR {h : AH} {i j : Nat} (hi : i < h.length) (hj : j < h.length) (hij : i ≠ j) (need u : Bool) (tx body : ByteArray) {fv r : AV} (hs : tx.size + (encB need body).size ≤ 140737488355328)
    (hw : FunW Tryz.prog fv [] (HB h i j (u || need) (if need then tx ++ lpa else tx)) fun o h' => o = .ret r ∧ h' = HB h i j true ((if need then tx ++ lpa else tx) ++ body)) :
    Xd Tryz.prog 69 [.ptr i 0 0, .b need, fv] (HB h i j u tx) fun o h' => o = .ret (.tup []) ∧ h' = HB h i j true (tx ++ encB need body) := by
  have f2 := fun x y => YM (h := h) hi hij x y
  have e0 : ∀ u tx, HB h i j u tx = hs2 h i (bw 71 i j u tx) j (.grow 5 1 tx.size) := fun _ _ => rfl
  have f0 : ∀ u tx, (HB h i j u tx)[i]? = some (bw 71 i j u tx) := fun u tx => f2 _ _
  have f1 : ∀ u tx, bw 71 i j u tx = .cells 71 2 [.agg [if u then .ptr i 0 0 else .v (.pointer none), .sl 1 (Xo tx) (some j)]] := fun _ _ => rfl
  cases need
  · rw [Bool.or_false, if_neg (by decide)] at hw
    refine Qe Tryz.func69 rfl Tryz.call69 Tryz.ntmps69 (congrArg Array.toList Tryz.results69) (by simp) ?_
    repeat (first | ((first | (with_reducible (first | refine Qa fun K E hK hE => ?_ | refine Qs fun K E hK hE => ?_ | refine FunW.ret hw ?_))); simp -implicitDefEqProofs only [Qd, Qb, Qg, OpW, QO, aop, undef, AS.ev, Qc, Qi, Qw, Qns, QnL, ↓reduceIte, Nat.reduceLT, Nat.reduceEqDiff, QnE]) | (with_reducible (first | refine Qh fun K hK => ?_ | refine QA ?_ | refine Qj ?_)) | ((with_reducible refine hK _ ?_); clear hK) | (refine Qk rfl ?_; simp only [↓reduceIte, Qnp]))
    simp -implicitDefEqProofs only [Qnn, Qnr, List.mapM_nil, Option.pure_def, Qnn, QI, Qm, Qnv]
    exact .inr ⟨rfl, rfl⟩
  · rw [Bool.or_true, if_pos rfl] at hw
    have hsz : tx.size + body.size + 2 ≤ 140737488355328 := by
      rw [encB, if_pos rfl, QE, QE] at hs
      have : lpa.size = 1 := rfl
      have : rpa.size = 1 := rfl
      omega
    have c1 := QfC wTy hij u tx 40 (by omega) h hi hj
    rw [← e0, ← e0, show ((UInt8.toNat 40 : Nat) : Int) = 40 from rfl] at c1
    refine Zj Tryz.func69 rfl Tryz.call69 Tryz.ntmps69 (congrArg Array.toList Tryz.results69) (by simp) ?_
    refine X0 (X0 (XI ?_))
    repeat (first | (((with_reducible refine Qs fun K E hK hE => ?_)); simp -implicitDefEqProofs only [Qd, Qb, Qg, OpW, aop, undef, AS.ev, Qc, Qw, Qns, QnL, Nat.reduceLT]) | ((with_reducible refine hK _ ?_); clear hK))
    show DefW _ _ _ _ _ _
    refine Qj3 rfl (X0 (XI ?_))
    repeat (first | ((first | (with_reducible (first | refine Qs fun K E hK hE => ?_ | refine FunW.ret (FunW.call c1) ?_))); simp -implicitDefEqProofs only [Qd, Qb, Qg, OpW, QO, aop, undef, AS.ev, Qc, Qn, Qi, Qw, Qns, ↓reduceIte, Nat.reduceLT, Nat.reduceEqDiff, QnK, Qp, Qnn, QnA, QnE, YH, QX, f0, f1]) | ((with_reducible refine hK _ ?_); clear hK))
    show DefW _ _ _ _ _ _
    refine QbQ 3 rfl rfl rfl ?_
    simp -implicitDefEqProofs only [Qd, Qb, Qg, OpW, aop, undef, AS.ev, Qc, QV, Qn, Qi, Qw, Qns, ↓reduceIte, Nat.reduceAdd, Nat.reduceLT, Nat.reduceEqDiff, QnK, QnU, Qp, Qnn, QnA, QnE, Qnw, QnD, Qnu, QnC, YH, QX, f0, f1]
    refine ⟨_, _, _, rfl, ?_⟩
    show DefW _ _ _ _ _ _
    refine XI ?_
    repeat (first | ((first | (with_reducible (first | refine Qs fun K E hK hE => ?_ | refine FunW.ret hw ?_))); simp -implicitDefEqProofs only [Qd, Qb, Qg, OpW, QO, aop, undef, AS.ev, Qc, Qi, Qw, Qns, QnL, ↓reduceIte, Nat.reduceLT, Nat.reduceEqDiff, QnE]) | ((with_reducible refine hK _ ?_); clear hK))
    simp only [Qf2, Qdn]
    refine Zx.mono (QfB hi hj hij true ((tx ++ lpa) ++ body) 41 (by rw [QE, QE]; have : lpa.size = 1 := rfl; omega) .ret) ?_
    rintro m' h' ⟨rfl, rfl⟩
    simp only [AMode.settle, Qdn]
    simp -implicitDefEqProofs only [Qnn, Qnr, List.mapM_nil, Option.pure_def, Qnn, QI, Qm, Qnv]
    exact .inr ⟨rfl, by rw [encB, if_pos rfl, ByteArray.append_assoc, ByteArray.append_assoc, ByteArray.append_assoc]⟩
end Go.Proofs.YtehjodmnajgdgaaGreatDoor.Ab
set_option maxRecDepth 4000
namespace Go.Proofs.YtehjodmnajgdgaaGreatDoor.Ab
open Go.Proofs
abbrev QbD : ByteArray := { data := #[44, 32] }
def binT (o : Int) (n : ByteArray) (oa oc : Int) (x y : ByteArray) : ByteArray := (encB ((oa == 1) && (o == 2)) x ++ (({ data := #[32] } : ByteArray) ++ n ++ { data := #[32] })) ++ encB ((oc != 0) && ((oc == 1) || (o == 2))) y
def Yh : Bool → List ByteArray → ByteArray
  | _, [] => .empty
  | f, x :: r => (if f then x else QbD ++ x) ++ Yh false r
def funT (n : ByteArray) (l : List ByteArray) : ByteArray := n ++ encB (decide (0 < l.length)) (Yh true l)
mutual
def T.txt : T → ByteArray
  | .mk k i n l => if (T.mk k i n l).oper ≠ 0 then (match l.map T.oper, txts l with
      | [oa, oc], [x, y] => binT (ofB n) n oa oc x y
      | _, _ => .empty) else
    if k = 0 then decZ i else if k = 1 then vOf (decN i.toNat) else funT n (txts l)
def txts : List T → List ByteArray
  | [] => []
  | t :: l => t.txt :: txts l
end
theorem Qko (l : List T) : txts l = l.map T.txt := by
  induction l with
  | nil => rfl
  | cons t l ih => rw [txts, ih]; rfl
mutual
def T.lex : T → Prop
  | .mk k i n l => (k = 0 → -9223372036854775807 ≤ i ∧ i ≤ 9223372036854775807) ∧ (k = 1 → 0 ≤ i ∧ i ≤ 1048576) ∧ l.length ≤ 1000000 ∧ n.size ≤ 1000000 ∧ lexL l
def lexL : List T → Prop
  | [] => True
  | t :: l => t.lex ∧ lexL l
end
section
variable {h : AH} {i j : Nat} (hi : i < h.length) (hj : j < h.length) (hij : i ≠ j)
theorem Qfb (h : AH) (i j : Nat) (u : Bool) (tx : ByteArray) : (HB h i j u tx).length = h.length := YP _ _ _ _ _
theorem QeE (h : AH) (i j : Nat) (u : Bool) (tx : ByteArray) (L : AH) : (HB h i j u tx ++ L)[h.length]? = L[0]? := Qlz _ _ _
theorem QgM (h : AH) (i j : Nat) (u : Bool) (tx : ByteArray) (L : AH) (k : Nat) : (HB h i j u tx ++ L)[h.length + k]? = L[k]? := Ql5 _ _ _ _
theorem Qlf (h : AH) (i j : Nat) (u : Bool) (tx : ByteArray) (z : AB) (L : AH) : (HB h i j u tx ++ L).set h.length z = HB h i j u tx ++ L.set 0 z := QkP _ _ _ _
theorem Ql8 (h : AH) (i j : Nat) (u : Bool) (tx : ByteArray) (z : AB) (L : AH) (k : Nat) : (HB h i j u tx ++ L).set (h.length + k) z = HB h i j u tx ++ L.set k z := Qly _ _ _ _ _
include hi hj in
theorem Qie (u : Bool) (tx : ByteArray) (L : AH) : HB (h ++ L) i j u tx = HB h i j u tx ++ L := QhQ hi hj _ _ _
include hi hij in
theorem Qhb (u : Bool) (tx : ByteArray) : (HB h i j u tx)[i]? = some (.cells 71 2 [.agg [if u then .ptr i 0 0 else .v (.pointer none), .sl 1 (Xo tx) (some j)]]) := YM hi hij _ _
include hi hij in
theorem QdT (u : Bool) (tx : ByteArray) (L : AH) : (HB h i j u tx ++ L)[i]? = some (.cells 71 2 [.agg [if u then .ptr i 0 0 else .v (.pointer none), .sl 1 (Xo tx) (some j)]]) := QkC hi hij _ _ _
theorem QmC {u u' : Bool} {tx tx' : ByteArray} (hij : i ≠ j) (H : XT (HB h i j u tx)) : XT (HB h i j u' tx') := by
  obtain ⟨k, ty, fr, e⟩ := H
  refine ⟨k, ty, fr, ?_⟩
  have hk := QN e
  rw [Qfb] at hk
  by_cases h1 : i = k
  · subst h1; rw [HB, YM hk hij] at e; cases e
  · by_cases h2 : j = k
    · subst h2; rw [HB, Qbx hk] at e; cases e
    · rw [HB, Ym _ _ h1 h2] at e ⊢; exact e
theorem XU {u u' : Bool} {tx tx' : ByteArray} {L : AH} {r r' : AV} {Q : AV → AH → Prop} (hi : i < h.length) (hj : j < h.length) (hij : i ≠ j) (hf : Frz (HB h i j u' tx' ++ L) h.length r r') (hq : Q r' (HB h i j u' tx')) : Leaves (HB h i j u tx) (HB h i j u' tx' ++ L) r Q :=
  Qfe hij (Qlt hi hj) trivial hf hq
end
def Wri (f : FuncId) (args : List AV) (h : AH) (i j : Nat) (u : Bool) (tx add : ByteArray) : Prop :=
  Xd Tryz.prog f args (HB h i j u tx) fun o h' => o = .ret (.tup []) ∧ h' = HB h i j true (tx ++ add)
theorem wstr {h : AH} {i j : Nat} (hi : i < h.length) (hj : j < h.length) (hij : i ≠ j) (u : Bool) (tx s : ByteArray) (hs : tx.size + s.size ≤ 140737488355328) :
    Xd Tryz.prog 40 [.ptr i 0 0, .v (.string s)] (HB h i j u tx) fun o h' => o = .ret (.tup [.i s.size, .v .nilIface]) ∧ h' = HB h i j true (tx ++ s) :=
  QeS wTy hij u tx s hs h hi hj
theorem YY {p : Prop} (h : 2 = 3) : p := by cases h
theorem QkB {G G' : AH} {p q i : Nat} {t a : T} {r : AV} (hp : G[p]? = some (.cells 58 1 [.ptr i 0 0])) (hq : G[q]? = some (.cells 24 4 [t.av])) (ha : t.args[0]? = some a)
    (H : Xd Tryz.prog 35 [.ptr i 0 0, a.av] G fun o h' => o = .ret r ∧ h' = G') :
    Xd Tryz.prog 70 [.ptr p 0 0, .ptr q 0 0] G fun o h' => o = .ret (.tup []) ∧ h' = G' := by
  have e1 : t.av = .agg [.i t.kind, .i t.int, .v (.string t.name), .sl 4 (avs t.args) none] := by cases t; rfl
  have hlt : 0 < t.args.length := QN ha
  have hz : (0 : Int) < t.args.length := by omega
  have hg := Y3 hlt
  have ea : t.args[0] = a := by rw [List.getElem?_eq_getElem hlt] at ha; injection ha
  rw [ea] at hg
  rw [e1] at hq
  refine Qe Tryz.func70 rfl Tryz.call70 Tryz.ntmps70 (congrArg Array.toList Tryz.results70) (by simp) ?_
  repeat (first | ((first | (with_reducible refine Xs (FunW.call H) YY ?_) | (refine XE (id := 0) [(0, 0), (1, 0), (2, 0), (3, 0), (4, 0), (5, 2)] mixed (by kernel_rfl) fun K hK => ?_)); simp -implicitDefEqProofs only [Q4, Q1, Xb, Qg, aop, undef, AS.ev, Qc, Qn, Qi, Qw, Qns, QnL, QB, Xu, ↓reduceIte, Qny, Qnz, Nat.reduceAdd, Nat.reduceLT, Nat.reduceLeDiff, Nat.reduceEqDiff, Qnx, QnT, Qp, QK, QL, QZ, Qnl, Qnm, Qnn, Qno, QnA, QnE, Int.toNat_zero, T.QmN, T.QmO, QH, ti22, ei22, ti24, Xy, ti58, Qn8, hp, hq, hz, hg, QH, T.QmO, T.QmN]) | ((with_reducible refine hK _ ?_); clear hK))
  simp -implicitDefEqProofs only [Qnn, Qnr, List.mapM_nil, Option.pure_def, Qnn, QI, Qm, Qnv]
  exact .inr ⟨rfl, rfl⟩
theorem Qkh {G G' : AH} {p q i : Nat} {t a : T} {r : AV} (hp : G[p]? = some (.cells 58 1 [.ptr i 0 0])) (hq : G[q]? = some (.cells 24 4 [t.av])) (ha : t.args[1]? = some a)
    (H : Xd Tryz.prog 35 [.ptr i 0 0, a.av] G fun o h' => o = .ret r ∧ h' = G') :
    Xd Tryz.prog 71 [.ptr p 0 0, .ptr q 0 0] G fun o h' => o = .ret (.tup []) ∧ h' = G' := by
  have e1 : t.av = .agg [.i t.kind, .i t.int, .v (.string t.name), .sl 4 (avs t.args) none] := by cases t; rfl
  have hlt : 1 < t.args.length := QN ha
  have hz : (1 : Int) < t.args.length := by omega
  have z1 : (0 : Int) ≤ 1 := by decide
  have hg := Y3 hlt
  have ea : t.args[1] = a := by rw [List.getElem?_eq_getElem hlt] at ha; injection ha
  rw [ea] at hg
  rw [e1] at hq
  refine Qe Tryz.func71 rfl Tryz.call71 Tryz.ntmps71 (congrArg Array.toList Tryz.results71) (by simp) ?_
  repeat (first | ((first | (with_reducible refine Xs (FunW.call H) YY ?_) | (refine XE (id := 0) [(0, 0), (1, 0), (2, 0), (3, 0), (4, 0), (5, 2)] mixed (by kernel_rfl) fun K hK => ?_)); simp -implicitDefEqProofs only [Q4, Q1, Xb, Qg, aop, undef, AS.ev, Qc, Qn, Qi, Qw, Qns, QnL, QB, Xu, ↓reduceIte, Qny, Qnz, Nat.reduceAdd, Nat.reduceLT, Nat.reduceLeDiff, Nat.reduceEqDiff, Qnx, QnT, Qp, QK, QL, QZ, Qnl, Qnm, Qnn, Qno, QnA, QnE, Int.toNat_one, T.QmN, T.QmO, QH, ti22, ei22, ti24, Xy, ti58, hp, hq, hz, z1, hg, QH, T.QmO, T.QmN]) | ((with_reducible refine hK _ ?_); clear hK))
  simp -implicitDefEqProofs only [Qnn, Qnr, List.mapM_nil, Option.pure_def, Qnn, QI, Qm, Qnv]
  exact .inr ⟨rfl, rfl⟩
theorem QiS (f : Bool) (l : List ByteArray) : ∀ x r, l = x :: r → (Yh f l).size = (if f then 0 else 2) + x.size + (Yh false r).size := by
  rintro x r rfl
  rw [Yh, QE]
  cases f
  · simp only [Qnp, if_false, QE]; have : QbD.size = 2 := rfl; omega
  · simp
theorem QgT {h : AH} {i j : Nat} (hi : i < h.length) (hj : j < h.length) (hij : i ≠ j) (l : List T) {p q : Nat} (hp : p < h.length) (hq : q < h.length) (hpi : i ≠ p) (hpj : j ≠ p) (hqi : i ≠ q) (hqj : j ≠ q)
    (gp : h[p]? = some (.cells 58 1 [.ptr i 0 0])) (gq : h[q]? = some (.cells 22 1 [.sl 4 (avs l) none])) (hl : l.length ≤ 1000000)
    (ih : ∀ t ∈ l, ∀ (h : AH), i < h.length → j < h.length → XT (HB h i j true (.empty)) → ∀ tx : ByteArray, tx.size + t.txt.size ≤ 140737488355328 → Wri 35 [.ptr i 0 0, t.av] h i j true tx t.txt)
    (hG : XT (HB h i j true (.empty))) (tx : ByteArray) (hs : tx.size + (Yh true (txts l)).size ≤ 140737488355328) :
    Wri 79 [.ptr q 0 0, .ptr p 0 0] h i j true tx (Yh true (txts l)) := by
  have k0 : ∀ u tx L, (HB h i j u tx ++ L)[p]? = some (.cells 58 1 [.ptr i 0 0]) := fun u tx L => by
    rw [List.getElem?_append_left (by rw [Qfb]; exact hp), HB, Ym _ _ hpi hpj, gp]
  have k1 : ∀ u tx, (HB h i j u tx)[q]? = some (.cells 22 1 [.sl 4 (avs l) none]) := fun u tx => by
    rw [HB, Ym _ _ hqi hqj, gq]
  have f1 := Qfb h i j
  have f2 := fun u tx L => QeE h i j u tx L
  have f3 := fun u tx L => QgM h i j u tx L
  have f4 := fun u tx z L => Qlf h i j u tx z L
  have f5 := fun u tx z L => Ql8 h i j u tx z L
  have f6 := fun u tx L => QdT (h := h) hi hij u tx L
  refine Qe Tryz.func79 rfl Tryz.call79 Tryz.ntmps79 (congrArg Array.toList Tryz.results79) (by simp) ?_
  repeat (first | (((with_reducible refine Qa fun K E hK hE => ?_)); simp -implicitDefEqProofs only [Qd, Qb, Qg, OpW, aop, undef, AS.ev, Qc, Qn, Qi, Qw, Qns, Yf, ↓reduceIte, Nat.reduceLT, QK, QL, aLen, Qnl, Qnn, goInt, QH, ti22, un22, k1, QH]) | (with_reducible refine Qq ?_) | ((with_reducible refine hK _ ?_); clear hK))
  obtain ⟨I, hI⟩ : ∃ I : Nat → AS → Prop, I = fun m' s => ∃ (k : Nat) (cur : ByteArray), m' = l.length - k ∧ k ≤ l.length ∧ cur ++ Yh (decide (k = 0)) (txts (l.drop k)) = tx ++ Yh true (txts l) ∧ s.tm 0 = .ptr q 0 0 ∧ s.tm 1 = .ptr p 0 0 ∧ s.tm 4 = .sl 4 (avs l) none ∧ s.tm 5 = .i l.length ∧ s.tm 6 = .i k ∧ (∃ L, s.h = HB h i j true cur ++ L) := ⟨_, rfl⟩; refine XM I ?_ (m := l.length) ?_
  · intro m' s hs; rw [hI] at hs; obtain ⟨tm, hp⟩ := s; dsimp only at hs; obtain ⟨k, cur, rfl, hk, he, t0, t1, t4, t5, t6, L, rfl⟩ := hs
    by_cases hlt : k < l.length
    · have hg := Y3 hlt
      have z1 : (k : Int) < l.length := by omega
      have hsz : cur.size + (Yh (decide (k = 0)) (txts (l.drop k))).size = tx.size + (Yh true (txts l)).size := by rw [← QE, he, QE]
      have hd : txts (l.drop k) = (l[k]).txt :: txts (l.drop (k + 1)) := by rw [List.drop_eq_getElem_cons hlt]; rfl
      have hcm : QbD.size = 2 := rfl
      rw [hd, Yh, QE] at hsz
      rw [hd, Yh] at he
      have gapp := fun (u : Bool) (tx : ByteArray) (L : AH) => Qie (h := h) (i := i) (j := j) hi hj u tx L
      have glen : ∀ L : AH, i < (h ++ L).length ∧ j < (h ++ L).length := fun L => by rw [List.length_append]; omega
      by_cases hk0 : k = 0
      · rw [decide_eq_true hk0, if_pos rfl] at hsz he
        have z2 : ¬ (k : Int) > 0 := by omega
        have c := ih l[k] (List.getElem_mem hlt) (h ++ (L ++ [AB.cells 24 4 [l[k].av]])) (glen _).1 (glen _).2 (by rw [gapp]; exact HasG.app hG _) cur (by omega)
        rw [Wri, gapp, gapp] at c
        repeat (first | ((first | (with_reducible (first | refine Qa fun K E hK hE => ?_ | refine Qs fun K E hK hE => ?_ | refine FunW.ret (FunW.call c) ?_))); simp -implicitDefEqProofs only [Qd, Qb, Qg, OpW, QO, aop, undef, AS.ev, Qc, QV, Qn, Qi, AV.QmP, QB, Xu, QJ, QnF, QnG, Qv, Qt, QM, QC, QnH, ↓reduceIte, Qny, Qnz, Nat.reduceAdd, Nat.reduceLT, Nat.reduceEqDiff, Qnx, QnT, QK, QL, Q5, QW, QZ, aBin, QT, YQ, hlen, happ, Qnl, QnP, Qnn, QnA, QnE, Q0, Xg, X8, QnR, QnS, QnY, QnX, T.QmN, T.QmO, QH, ei22, ti24, zi24, ti58, t1, t4, t5, t6, z1, z2, hg, k0, f1, f3, f5, T.QmO, T.QmN]) | (with_reducible (first | refine Qh fun K hK => ?_ | refine Qq ?_ | refine QA ?_ | refine Qj ?_ | refine QD ?_)) | ((with_reducible refine hK _ ?_); clear hK) | (refine Qk rfl ?_; simp only [↓reduceIte, Qnp]))
        refine Yr.mk (m' := l.length - (k + 1)) (by omega) ?_
        rw [hI]
        refine ⟨k + 1, cur ++ (l[k]).txt, rfl, hlt, ?_, t0, t1, t4, t5, ?_, _, rfl⟩
        · rw [decide_eq_false (Nat.succ_ne_zero k), ByteArray.append_assoc]; exact he
        · simp only [upd, ↓reduceIte]
          rw [Yd (by omega)]
      · rw [decide_eq_false hk0, if_neg (by decide), QE] at hsz
        rw [decide_eq_false hk0, if_neg (by decide)] at he
        have z2 : (k : Int) > 0 := by omega
        have c1 := wstr (h := h ++ (L ++ [AB.cells 24 4 [l[k].av]])) (glen _).1 (glen _).2 hij true cur QbD (by omega)
        rw [gapp, gapp] at c1
        have c := ih l[k] (List.getElem_mem hlt) (h ++ (L ++ [AB.cells 24 4 [l[k].av]])) (glen _).1 (glen _).2 (by rw [gapp]; exact HasG.app hG _) (cur ++ QbD) (by rw [QE]; omega)
        rw [Wri, gapp, gapp] at c
        repeat (first | ((first | (with_reducible (first | refine Qa fun K E hK hE => ?_ | refine Qs fun K E hK hE => ?_ | refine FunW.ret (FunW.call c) ?_ | refine FunW.ret (FunW.call c1) ?_))); simp -implicitDefEqProofs only [Qd, Qb, Qg, OpW, QO, aop, undef, AS.ev, Qc, QV, Qn, QG, Qi, AV.QmP, QB, Xu, QJ, QnF, QnG, Qv, Qt, QM, QC, QnH, ↓reduceIte, Qny, Qnz, Nat.reduceAdd, Nat.reduceLT, Nat.reduceEqDiff, Qnx, QnK, QnT, Qp, QK, QL, Q5, QW, QZ, aBin, QT, YQ, hlen, happ, Qnl, QnP, Qnn, QnA, QnE, Q0, Xg, X8, QnR, QnY, QnX, T.QmN, T.QmO, QH, ei22, ti24, zi24, ti58, YH, QX, t1, t4, t5, t6, z1, z2, hg, k0, f1, f3, f5, f6, T.QmO, T.QmN]) | (with_reducible (first | refine Qh fun K hK => ?_ | refine Qq ?_ | refine QA ?_ | refine Qj ?_ | refine QD ?_)) | ((with_reducible refine hK _ ?_); clear hK) | (refine Qk rfl ?_; simp only [↓reduceIte]))
        refine Yr.mk (m' := l.length - (k + 1)) (by omega) ?_
        rw [hI]
        refine ⟨k + 1, (cur ++ QbD) ++ (l[k]).txt, rfl, hlt, ?_, t0, t1, t4, t5, ?_, _, rfl⟩
        · rw [decide_eq_false (Nat.succ_ne_zero k)]; simp only [ByteArray.append_assoc] at he ⊢; exact he
        · simp only [upd, ↓reduceIte]
          rw [Yd (by omega)]
    · have hkn : k = l.length := by omega
      subst hkn
      have z1 : ¬ ((l.length : Nat) : Int) < l.length := by omega
      rw [List.drop_length, txts, Yh, ByteArray.append_empty] at he
      repeat (first | (((with_reducible refine Qa fun K E hK hE => ?_)); simp -implicitDefEqProofs only [Qd, Qb, Qg, OpW, aop, AS.ev, Qc, Nat.reduceLT, aBin, Qnn, Q0, QnS, t5, t6, z1]) | (with_reducible (first | refine Qh fun K hK => ?_ | refine Xj ?_ | refine Q9 ?_ | refine Q8 ?_)) | ((with_reducible refine hK _ ?_); clear hK) | (refine Qk rfl ?_; simp only [↓reduceIte, Qnp]))
      simp -implicitDefEqProofs only [Qnn, Qnr, List.mapM_nil, Option.pure_def, Qnn, QI, Qm, Qnv]
      exact XU hi hj hij (.keep (.tup _ fun x hx => by cases hx)) ⟨rfl, by rw [he]⟩
  · rw [hI]
    exact ⟨0, tx, rfl, by omega, rfl, rfl, rfl, rfl, rfl, rfl, [], (List.append_nil _).symm⟩
theorem Qax (l : List T) : (txts l).length = l.length := by rw [Qko, List.length_map]
theorem ZM {h : AH} {i j : Nat} (hi : i < h.length) (hj : j < h.length) (hij : i ≠ j) (l : List T) (hl : l.length ≤ 1000000) (s : ByteArray)
    (ih : ∀ t ∈ l, ∀ (h : AH), i < h.length → j < h.length → XT (HB h i j true (.empty)) → ∀ tx : ByteArray, tx.size + t.txt.size ≤ 140737488355328 → Wri 35 [.ptr i 0 0, t.av] h i j true tx t.txt)
    (hG : XT (HB h i j true (.empty))) (u : Bool) (tx : ByteArray) (hs : tx.size + (funT s (txts l)).size ≤ 140737488355328) :
    Wri 39 [.ptr i 0 0, .v (.string s), .sl 4 (avs l) none] h i j u tx (funT s (txts l)) := by
  obtain ⟨L, hL⟩ : ∃ L : AH, L = [AB.cells 58 1 [.ptr i 0 0], AB.cells 22 1 [.sl 4 (avs l) none]] := ⟨_, rfl⟩
  have hlL : (h ++ L).length = h.length + 2 := by rw [hL]; simp
  have hi' : i < (h ++ L).length := by omega
  have hj' : j < (h ++ L).length := by omega
  have gapp := fun (u : Bool) (tx : ByteArray) (L : AH) => Qie (h := h) (i := i) (j := j) hi hj u tx L
  have hsz : (funT s (txts l)).size = s.size + (encB (decide (0 < (txts l).length)) (Yh true (txts l))).size := by rw [funT, QE]
  rw [Qax] at hsz
  obtain ⟨body, hbody⟩ : ∃ b, b = Yh true (txts l) := ⟨_, rfl⟩
  rw [← hbody] at hsz
  have hbs : body.size ≤ (encB (decide (0 < l.length)) body).size := by
    rw [encB]; split
    · rw [QE, QE]; omega
    · exact Nat.le_refl _
  have c1 := wstr (h := h ++ L) hi' hj' hij u tx s (by omega)
  rw [gapp, gapp, hL] at c1
  have gp : (h ++ L)[h.length]? = some (.cells 58 1 [.ptr i 0 0]) := by rw [hL]; simp
  have gq : (h ++ L)[h.length + 1]? = some (.cells 22 1 [.sl 4 (avs l) none]) := by rw [hL]; simp
  have hn : decide ((l.length : Int) > 0) = decide (0 < l.length) := by rw [Bool.eq_iff_iff]; simp
  have hx : ((if decide (0 < l.length) = true then tx ++ s ++ lpa else tx ++ s)).size + body.size ≤ 140737488355328 := by
    by_cases h0 : 0 < l.length
    · rw [if_pos (decide_eq_true h0), QE, QE]
      rw [encB, if_pos (decide_eq_true h0), QE, QE] at hsz
      omega
    · rw [if_neg (by simpa using h0), QE]
      omega
  have hw := QgT (h := h ++ L) hi' hj' hij l (p := h.length) (q := h.length + 1) (by omega) (by omega) (by omega) (by omega) (by omega) (by omega) gp gq hl ih (by rw [gapp]; exact HasG.app hG _)
    (if decide (0 < l.length) = true then tx ++ s ++ lpa else tx ++ s) (by rw [← hbody]; exact hx)
  rw [← hbody] at hw
  have c2 := QaR (h := h ++ L) hi' hj' hij (decide (0 < l.length)) true (tx ++ s) body (fv := .fn (.func 79) [] [.ptr (h.length + 1) 0 0, .ptr h.length 0 0]) (by rw [QE]; omega) (FunW.fn hw)
  rw [gapp, gapp, hL] at c2
  have f2 := fun u tx L => QeE h i j u tx L
  have f3 := fun u tx L => QgM h i j u tx L
  have f6 := fun u tx L => QdT (h := h) hi hij u tx L
  have f1 := Qfb h i j
  refine Qe Tryz.func39 rfl Tryz.call39 Tryz.ntmps39 (congrArg Array.toList Tryz.results39) (by simp) ?_
  repeat (first | ((first | (with_reducible (first | refine Qa fun K E hK hE => ?_ | refine Qs fun K E hK hE => ?_ | refine FunW.ret (FunW.call c1) ?_ | refine FunW.ret (FunW.call c2) ?_))); simp -implicitDefEqProofs only [Qd, Qb, Qg, OpW, QO, aop, undef, AS.ev, Qc, Qn, Qi, Qw, Qns, QnL, AV.QmP, Yf, Xu, QnF, QnG, QC, XC, QnH, ↓reduceIte, Qny, Qnz, Nat.reduceLT, Nat.reduceEqDiff, Qnx, QnK, Qp, QK, QL, aBin, aLen, hlen, happ, Qnl, Qnm, Qnn, QnA, QnE, QnN, QnM, Xg, goInt, QH, ti22, un22, ti58, YH, QX, f1, f2, f3, f6, QH, hn]) | ((with_reducible refine hK _ ?_); clear hK))
  simp -implicitDefEqProofs only [Qnn, Qnr, List.mapM_nil, Option.pure_def, Qnn, QI, Qm, Qnv]
  exact XU hi hj hij (.keep (.tup _ fun x hx => by cases hx)) ⟨rfl, by rw [funT, Qax, ← hbody, ByteArray.append_assoc]⟩
end Go.Proofs.YtehjodmnajgdgaaGreatDoor.Ab
