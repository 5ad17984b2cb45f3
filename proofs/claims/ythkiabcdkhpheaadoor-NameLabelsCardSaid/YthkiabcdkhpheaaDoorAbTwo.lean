/-
  An abstract program logic: lookups, maps, regions in the order of the text, what a call leaves behind.
-/
import Derived.Test.YthkiabcdkhpheaaDoorAbOne
import Derived.Laws.MakeOwn
import Derived.Laws.Slices
import Derived.LaidEql
import Derived.Laws.BytesArg
import Derived.Lib.Builder
import Derived.Lib.AppendStr
import Derived.Lib.UnsafeStr
import Derived.Laws.OwnMore
import Derived.DefersIn
import Derived.RangeFuncLeaves
import Derived.RangeFuncStops
set_option linter.unusedVariables false
set_option maxHeartbeats 4000000
/-
  The abstract program logic: len, parts of slices, comparisons, maps, parts of structs.
-/
set_option linter.unusedVariables false
namespace Go.Proofs.YthkiabcdkhpheaaDoor.Ab

/-! ### len -/

def aLen (P : Program) (t ty : TypeId) (x : AV) (h : AH) : Option AV :=
  match x with
  | .v a => (pv P (Builtin.len_ #[t] ty #[a])).map .v
  | .sl _ xs _ => match P.underlying t with
    | some (.slice _) => some (.v (goInt xs.length))
    | _ => none
  | .arr id _ len => match P.underlying t, h[id]? with
    | some (.slice _), some (.cells _ _ _) => some (.v (goInt len))
    | _, _ => none
  | .row id _ len _ => match P.underlying t, h[id]? with
    | some (.slice _), some (.cells _ _ _) => some (.v (goInt len))
    | _, _ => none
  | .mp id => match P.underlying t, h[id]? with
    | some (.map _ _), some (.map es) => some (.v (goInt es.length))
    | _, _ => none
  | _ => none

theorem run_getObj_map {P : Program} {w : World} {r : Nat} {es : Array MapEntry} {k : Nat} (h : w.heap[r]? = some (.map es k)) : (getObj r).run P w = .ok (.map es k) w := by
  simp [getObj, Sem.run, h]

theorem len_sound {P : Program} {c : Cx} (hst : St c) {t ty : TypeId} {x r : AV} {u : Value} (ha : aLen P t ty x c.h = some r) (hx : Rel c x u) :
    ∃ y, (Builtin.len_ #[t] ty #[u]).run P c.w = .ok y c.w ∧ Rel c r y := by
  cases hx with
  | v u =>
    simp only [aLen] at ha
    cases hp : pv P (Builtin.len_ #[t] ty #[u]) with
    | none => simp [hp] at ha
    | some y => simp [hp] at ha; subst ha; exact ⟨y, pv_run hp _, .v y⟩
  | slnil s own ht =>
    simp only [aLen] at ha
    split at ha
    · rename_i hu; cases ha; exact ⟨_, by simp [Builtin.len_, underlying, hu], .v _⟩
    · cases ha
  | slzero s own ba ht =>
    simp only [aLen] at ha
    split at ha
    · rename_i hu; cases ha; exact ⟨_, by simp [Builtin.len_, underlying, hu], .v _⟩
    · cases ha
  | sl s xs own B o cap f hs hcap hmax hc hr ht =>
    simp only [aLen] at ha
    split at ha
    · rename_i hu; cases ha; exact ⟨_, by simp [Builtin.len_, underlying, hu], .v _⟩
    · cases ha
  | arr id lo len x hid ho h1 =>
    simp only [aLen] at ha
    split at ha
    · rename_i e ty' s xs hu hb
      cases ha
      obtain ⟨B, cap, _, rfl, _⟩ := h1 _ _ _ hb
      exact ⟨_, by simp [Builtin.len_, underlying, hu], .v _⟩
    · cases ha
  | row id lo len cap x hid ho h1 =>
    simp only [aLen] at ha
    split at ha
    · rename_i e ty' s xs hu hb
      cases ha
      obtain ⟨B, cur, _, rfl, _⟩ := h1 _ _ _ hb
      exact ⟨_, by simp [Builtin.len_, underlying, hu], .v _⟩
    · cases ha
  | mp id x hid ho h1 =>
    simp only [aLen] at ha
    split at ha
    · rename_i k e es hu hb
      cases ha
      obtain ⟨B, hρ, rfl⟩ := h1.1 _ hb
      obtain ⟨B', ents, clock, h2, h3, h4, _⟩ := hst.blocks id _ hb
      rw [hρ] at h2; cases h2
      exact ⟨_, by simp [Builtin.len_, underlying, hu, run_getObj_map h3]; rfl, by rw [h4]; exact .v _⟩
    · cases ha
  | _ => simp [aLen] at ha

/-! ### a part of a slice -/

def boundOf (d : Nat) : Option AV → Option Int
  | none => some d
  | some (.v (.int _ n)) => some n
  | some _ => none

def aSlice (P : Program) (t : TypeId) (x : AV) (lo hi : Option AV) (h : AH) : Option AV :=
  match elemInfo P t with
  | some (_, n) =>
    match x with
    | .v (.slice none 0 0) => match boundOf 0 lo, boundOf 0 hi with
      | some l, some k => if l = 0 ∧ k = 0 then some (.v (.slice none 0 0)) else none
      | _, _ => none
    | .sl s xs own => match boundOf 0 lo, boundOf xs.length hi with
      | some l, some k => if s = n ∧ 0 ≤ l ∧ l ≤ k ∧ k ≤ xs.length then
          (if l = 0 ∧ k = xs.length then some (.sl s xs own) else some (.sl s ((xs.drop l.toNat).take (k - l).toNat) none)) else none
      | _, _ => none
    | .arr id b len => match h[id]? with
      | some (.cells _ s _) => match boundOf 0 lo, boundOf len hi with
        | some l, some k => if s = n ∧ 0 ≤ l ∧ l ≤ k ∧ k ≤ len then (if l < k then some (.arr id (b + l.toNat) (k - l).toNat) else if k = 0 ∧ 0 < len then some (.arr id b 0) else some (.sl s [] none)) else none
        | _, _ => none
      | _ => none
    | .row id b len cap => match h[id]? with
      | some (.cells _ s _) => match boundOf 0 lo, boundOf len hi with
        | some l, some k => if s = n ∧ 0 ≤ l ∧ l ≤ k ∧ k ≤ cap then (if l < cap then some (.row id (b + l.toNat) (k - l).toNat (cap - l.toNat)) else some (.sl s [] none)) else none
        | _, _ => none
      | _ => none
    | _ => none
  | none =>
    match x with
    | .v a =>
      match lo, hi with
      | none, none => (pv P (Instr.sliceAt t a none none none)).map .v
      | some (.v l), none => (pv P (Instr.sliceAt t a (some l) none none)).map .v
      | none, some (.v k) => (pv P (Instr.sliceAt t a none (some k) none)).map .v
      | some (.v l), some (.v k) => (pv P (Instr.sliceAt t a (some l) (some k) none)).map .v
      | _, _ => none
    | _ => none

/-- an optional operand -/
def RelO (c : Cx) : Option AV → Option Value → Prop
  | none, none => True
  | some a, some u => Rel c a u
  | _, _ => False

theorem run_slice_cap {P : Program} {w : World} {c : Cx} {t e : TypeId} {n : Nat} (hu : P.underlying t = some (.slice e)) (hsz : ∀ w, (sizeOf e).run P w = .ok n w) (a : Option Addr) (len cap : Nat) {lo hi : Option AV} {ul uh : Option Value}
    (hl : RelO c lo ul) (hh : RelO c hi uh) {l k : Int} (h1 : boundOf 0 lo = some l) (h2 : boundOf len hi = some k) (h0 : 0 ≤ l) (hlk : l ≤ k) (hkc : k ≤ cap) :
    (Instr.sliceAt t (.slice a len cap) ul uh none).run P w = .ok (sliced a l.toNat k.toNat cap n) w := by
  have hk0 : 0 ≤ k := by omega
  have hlk' : l ≤ (k.toNat : Int) := by omega
  have bl : (match ul with | some v => Instr.sliceBound v k.toNat .sliceB | none => (pure 0 : Sem Nat)).run P w = .ok l.toNat w := by
    cases lo with
    | none => cases ul with
      | none => simp only [boundOf, Option.some.injEq] at h1; subst h1; rfl
      | some u => exact hl.elim
    | some a => cases ul with
      | none => exact hl.elim
      | some u =>
        cases a with
        | v x =>
          cases hl
          cases u with
          | int q m => simp only [boundOf, Option.some.injEq] at h1; subst h1; exact run_sliceBound w q _ _ _ h0 hlk'
          | _ => simp [boundOf] at h1
        | _ => simp [boundOf] at h1
  have bh : (match uh with | some v => Instr.sliceBound v cap .sliceAcap | none => (pure len : Sem Nat)).run P w = .ok k.toNat w := by
    cases hi with
    | none => cases uh with
      | none => simp only [boundOf, Option.some.injEq] at h2; subst h2; rfl
      | some u => exact hh.elim
    | some a => cases uh with
      | none => exact hh.elim
      | some u =>
        cases a with
        | v x =>
          cases hh
          cases u with
          | int q m => simp only [boundOf, Option.some.injEq] at h2; subst h2; exact run_sliceBound w q _ _ _ hk0 hkc
          | _ => simp [boundOf] at h2
        | _ => simp [boundOf] at h2
  simp only [Instr.sliceAt, Instr.slice, Sem.run_bind, underlying, run_program, Result.andThen_ok, hu, Sem.run_pure, Instr.sliceBounds]
  cases ul <;> cases uh <;> simp_all [sliced]

theorem run_slice_bounds {P : Program} {w : World} {c : Cx} {t e : TypeId} {n : Nat} (hu : P.underlying t = some (.slice e)) (hsz : ∀ w, (sizeOf e).run P w = .ok n w) (a : Option Addr) (len cap : Nat) {lo hi : Option AV} {ul uh : Option Value}
    (hl : RelO c lo ul) (hh : RelO c hi uh) {l k : Int} (h1 : boundOf 0 lo = some l) (h2 : boundOf len hi = some k) (h0 : 0 ≤ l) (hlk : l ≤ k) (hk : k ≤ len) (hlc : len ≤ cap) :
    (Instr.sliceAt t (.slice a len cap) ul uh none).run P w = .ok (sliced a l.toNat k.toNat cap n) w :=
  run_slice_cap hu hsz a len cap hl hh h1 h2 h0 hlk (by omega)

theorem slice_sound {P : Program} {c : Cx} (hst : St c) {t : TypeId} {x r : AV} {lo hi : Option AV} {u : Value} {ul uh : Option Value} (ha : aSlice P t x lo hi c.h = some r) (hx : Rel c x u) (hl : RelO c lo ul) (hh : RelO c hi uh) :
    ∃ y, (Instr.sliceAt t u ul uh none).run P c.w = .ok y c.w ∧ Rel c r y := by
  unfold aSlice at ha
  cases he : elemInfo P t with
  | none =>
    simp only [he] at ha
    cases hx with
    | v u =>
      simp only at ha
      split at ha
      · cases ul <;> cases uh <;> first | exact hl.elim | exact hh.elim | skip
        cases hp : pv P (Instr.sliceAt t u none none none) with
        | none => simp [hp] at ha
        | some y => simp [hp] at ha; subst ha; exact ⟨y, pv_run hp _, .v y⟩
      · rename_i l
        cases ul <;> cases uh <;> first | exact hl.elim | exact hh.elim | skip
        cases hl
        cases hp : pv P (Instr.sliceAt t u (some l) none none) with
        | none => simp [hp] at ha
        | some y => simp [hp] at ha; subst ha; exact ⟨y, pv_run hp _, .v y⟩
      · rename_i l
        cases ul <;> cases uh <;> first | exact hl.elim | exact hh.elim | skip
        cases hh
        cases hp : pv P (Instr.sliceAt t u none (some l) none) with
        | none => simp [hp] at ha
        | some y => simp [hp] at ha; subst ha; exact ⟨y, pv_run hp _, .v y⟩
      · rename_i l k
        cases ul <;> cases uh <;> first | exact hl.elim | exact hh.elim | skip
        cases hl; cases hh
        cases hp : pv P (Instr.sliceAt t u (some l) (some k) none) with
        | none => simp [hp] at ha
        | some y => simp [hp] at ha; subst ha; exact ⟨y, pv_run hp _, .v y⟩
      · cases ha
    | _ => simp at ha
  | some en =>
    obtain ⟨e, n⟩ := en
    obtain ⟨hu, hsz⟩ := elemInfo_run he
    simp only [he] at ha
    cases hx with
    | v u =>
      split at ha
      · rename_i heq
        cases heq
        split at ha
        · rename_i l k h1 h2
          split at ha
          · rename_i hz
            obtain ⟨rfl, rfl⟩ := hz
            cases ha
            refine ⟨_, run_slice_bounds hu hsz none 0 0 hl hh h1 h2 (by omega) (by omega) (by omega) (by omega), ?_⟩
            simp [sliced]; exact .v _
          · cases ha
        · cases ha
      all_goals (first | cases ha | simp_all)
    | slnil s own ht =>
      simp only at ha
      split at ha
      · rename_i l k h1 h2
        split at ha
        · rename_i hz
          obtain ⟨rfl, h3, h4, h5⟩ := hz
          simp only [List.length_nil] at h2 h5 ha
          have hl0 : l = 0 := by simp at h5; omega
          have hk0 : k = 0 := by simp at h5; omega
          subst hl0; subst hk0
          have hrun := run_slice_bounds (w := c.w) hu hsz none 0 0 hl hh h1 h2 (by omega) (by omega) (by omega) (by omega)
          simp at ha
          subst ha
          exact ⟨_, hrun, by simp [sliced]; exact .slnil _ _ ht⟩
        · cases ha
      · cases ha
    | slzero s own ba ht =>
      simp only at ha
      split at ha
      · rename_i l k h1 h2
        split at ha
        · rename_i hz
          obtain ⟨rfl, h3, h4, h5⟩ := hz
          simp only [List.length_nil] at h2 h5 ha
          have hl0 : l = 0 := by simp at h5; omega
          have hk0 : k = 0 := by simp at h5; omega
          subst hl0; subst hk0
          have hrun := run_slice_bounds (w := c.w) hu hsz (some ba) 0 0 hl hh h1 h2 (by omega) (by omega) (by omega) (by omega)
          simp at ha
          subst ha
          exact ⟨_, hrun, by simp [sliced]; exact .slzero _ _ _ ht⟩
        · cases ha
      · cases ha
    | sl s xs own B o cap f hs hcap hmax hc hr ht =>
      simp only at ha
      split at ha
      · rename_i l k h1 h2
        split at ha
        · rename_i hz
          obtain ⟨rfl, h3, h4, h5⟩ := hz
          have hrun := run_slice_bounds (w := c.w) hu hsz (some ⟨B, o, none⟩) xs.length cap hl hh h1 h2 h3 h4 h5 hcap
          split at ha
          · rename_i h6
            obtain ⟨rfl, rfl⟩ := h6
            cases ha
            refine ⟨_, hrun, ?_⟩
            have : sliced (some ⟨B, o, none⟩) (0 : Int).toNat ((xs.length : Nat) : Int).toNat cap s = .slice (some ⟨B, o, none⟩) xs.length cap := by
              simp [sliced, Addr.add]
            rw [this]
            exact .sl s xs own B o cap f hs hcap hmax hc hr ht
          · cases ha
            refine ⟨_, hrun, ?_⟩
            have hlen : ((xs.drop l.toNat).take (k - l).toNat).length = k.toNat - l.toNat := by simp; omega
            have hin : ∀ y ∈ (xs.drop l.toNat).take (k - l).toNat, y.cells.length = s := fun y hy => hs y (List.mem_of_mem_drop (List.mem_of_mem_take hy))
            have hdrop : ∀ y ∈ xs.drop l.toNat, y.cells.length = s := fun y hy => hs y (List.mem_of_mem_drop hy)
            by_cases hcl : cap = l.toNat
            · have hnil : (xs.drop l.toNat).take (k - l).toNat = [] := by apply List.eq_nil_of_length_eq_zero; omega
              rw [hnil]
              have : sliced (some ⟨B, o, none⟩) l.toNat k.toNat cap s = .slice (some ⟨B, o, none⟩) ([] : List AV).length (cap - l.toNat) := by
                simp only [sliced, hcl, if_true, List.length_nil]
                congr 1; omega
              rw [this]
              exact .sl s [] none B o _ (fun _ => undef) (by simp) (Nat.zero_le _) (by omega) (by simp [flat]) (by simp [flat]) (fun b hb => by cases hb)
            · have : sliced (some ⟨B, o, none⟩) l.toNat k.toNat cap s = .slice (some ⟨B, o + l.toNat * s, none⟩) ((xs.drop l.toNat).take (k - l).toNat).length (cap - l.toNat) := by
                simp only [sliced, hcl, if_false, Option.map_some, addr_add, hlen]
              rw [this]
              have hget : ∀ (j : Nat) a, (flat ((xs.drop l.toNat).take (k - l).toNat))[j]? = some a → (flat xs)[l.toNat * s + j]? = some a := by
                intro j a hj
                rw [flat_take hdrop (by simp; omega)] at hj
                have hlt := lt_of_get hj
                rw [List.length_take] at hlt
                rw [List.getElem?_take_of_lt (by omega), flat_drop hs (by omega), List.getElem?_drop] at hj
                exact hj
              refine .sl s _ none B (o + l.toNat * s) _ (fun j => f (l.toNat * s + j)) hin (by omega) (by omega) ?_ ?_ (fun b hb => by cases hb)
              · intro j a hj
                have := hc _ a (hget j a hj)
                rwa [← Nat.add_assoc] at this
              · intro j a hj
                exact hr _ a (hget j a hj)
        · cases ha
      · cases ha
    | arr id b len x hid ho h1 =>
      simp only at ha
      split at ha
      · rename_i ty s xs hb
        split at ha
        · rename_i l k h2 h3
          split at ha
          · rename_i hz
            obtain ⟨rfl, h4, h5, h6⟩ := hz
            obtain ⟨B, cap, hρ, rfl, hlc, hmax, cur, hcur, hroom⟩ := h1 _ _ _ hb
            have hrun := run_slice_bounds (w := c.w) hu hsz (some ⟨B, b * s, none⟩) len cap hl hh h2 h3 h4 h5 h6 hlc
            split at ha
            · rename_i hlt
              cases ha
              refine ⟨_, hrun, .arr id _ _ _ hid rfl ?_⟩
              intro ty' s' xs' hb'
              rw [hb] at hb'; cases hb'
              refine ⟨B, cap - l.toNat, hρ, ?_, by omega, by omega, cur, hcur, by rw [show b + l.toNat + (cap - l.toNat) = b + cap by omega]; exact hroom⟩
              have hcl : ¬ cap = l.toNat := by omega
              simp only [sliced, hcl, if_false, Option.map_some, addr_add]
              rw [show k.toNat - l.toNat = (k - l).toNat by omega, ← Nat.add_mul]
            split at ha
            · rename_i hnl hz2
              obtain ⟨rfl, hpos⟩ := hz2
              have hl0 : l = 0 := by omega
              subst hl0
              cases ha
              refine ⟨_, hrun, .arr id _ _ _ hid rfl ?_⟩
              intro ty' s' xs' hb'
              rw [hb] at hb'; cases hb'
              refine ⟨B, cap, hρ, ?_, by omega, hmax, cur, hcur, hroom⟩
              have hcl : ¬ cap = (0 : Int).toNat := by simp; omega
              simp [sliced, hcl, Addr.add]
            · cases ha
              refine ⟨_, hrun, ?_⟩
              have e : k.toNat - l.toNat = ([] : List AV).length := by simp; omega
              simp only [sliced, e, Option.map_some, addr_add]
              split
              · exact .sl s [] none B _ _ (fun _ => undef) (by simp) (Nat.zero_le _) (by omega) (by simp [flat]) (by simp [flat]) (fun b hb => by cases hb)
              · exact .sl s [] none B _ _ (fun _ => undef) (by simp) (Nat.zero_le _) (by omega) (by simp [flat]) (by simp [flat]) (fun b hb => by cases hb)
          · cases ha
        · cases ha
      · cases ha
    | row id b len cap x hid ho h1 =>
      simp only at ha
      split at ha
      · rename_i ty s xs hb
        split at ha
        · rename_i l k h2 h3
          split at ha
          · rename_i hz
            obtain ⟨rfl, h4, h5, h6⟩ := hz
            obtain ⟨B, cur, hρ, rfl, hlc, hmax, hcur, hroom⟩ := h1 _ _ _ hb
            have hrun := run_slice_cap (w := c.w) hu hsz (some ⟨B, b * s, none⟩) len cap hl hh h2 h3 h4 h5 h6
            split at ha
            · rename_i hlt
              cases ha
              refine ⟨_, hrun, .row id _ _ _ _ hid rfl ?_⟩
              intro ty' s' xs' hb'
              rw [hb] at hb'; cases hb'
              refine ⟨B, cur, hρ, ?_, by omega, by omega, hcur, by rw [show b + l.toNat + (cap - l.toNat) = b + cap by omega]; exact hroom⟩
              have hcl : ¬ cap = l.toNat := by omega
              simp only [sliced, hcl, if_false, Option.map_some, addr_add]
              rw [show k.toNat - l.toNat = (k - l).toNat by omega, ← Nat.add_mul]
            · cases ha
              refine ⟨_, hrun, ?_⟩
              have e : k.toNat - l.toNat = ([] : List AV).length := by simp; omega
              simp only [sliced, e, Option.map_some, addr_add]
              split
              · exact .sl s [] none B _ _ (fun _ => undef) (by simp) (Nat.zero_le _) (by omega) (by simp [flat]) (by simp [flat]) (fun b hb => by cases hb)
              · exact .sl s [] none B _ _ (fun _ => undef) (by simp) (Nat.zero_le _) (by omega) (by simp [flat]) (by simp [flat]) (fun b hb => by cases hb)
          · cases ha
        · cases ha
      · cases ha
    | _ => simp at ha


def slicy (h : AH) : AV → Bool
  | .v (.slice none 0 0) | .sl .. => true
  | .arr id _ _ => match h[id]? with | some (.cells ..) => true | _ => false
  | _ => false

/-- x[:0:0] -/
def aSlice0 (P : Program) (t : TypeId) (x : AV) (lo hi mx : Option AV) (h : AH) : Option (AV × AH) :=
  match elemInfo P t with
  | some (e, n) =>
    if boundOf 0 lo = some 0 ∧ boundOf 1 hi = some 0 ∧ boundOf 1 mx = some 0 ∧ slicy h x = true then some (.sl n [] (some h.length), h ++ [.dead]) else none
  | none => none

theorem bound_zero {c : Cx} {d : Nat} (hd : d ≠ 0) {a : Option AV} {u : Option Value} (hr : RelO c a u) (h : boundOf d a = some 0) : ∃ q, u = some (.int q 0) := by
  cases a with
  | none => simp [boundOf] at h; omega
  | some a =>
    cases u with
    | none => exact hr.elim
    | some u =>
      cases a with
      | v x =>
        cases hr
        cases u with
        | int q m => simp only [boundOf, Option.some.injEq] at h; subst h; exact ⟨q, rfl⟩
        | _ => simp [boundOf] at h
      | _ => simp [boundOf] at h

theorem slice0_sound {P : Program} {c : Cx} (hst : St c) {t : TypeId} {x r : AV} {lo hi mx : Option AV} {h' : AH} {u : Value} {ul uh um : Option Value} (ha : aSlice0 P t x lo hi mx c.h = some (r, h')) (hx : Rel c x u) (hl : RelO c lo ul) (hh : RelO c hi uh) (hm : RelO c mx um) :
    ∃ y c', (Instr.sliceAt t u ul uh um).run P c.w = .ok y c'.w ∧ Ev c c' ∧ St c' ∧ c'.h = h' ∧ Rel c' r y := by
  unfold aSlice0 at ha
  cases he : elemInfo P t with
  | none => simp [he] at ha
  | some en =>
    obtain ⟨e, n⟩ := en
    obtain ⟨hu, hsz⟩ := elemInfo_run he
    simp only [he] at ha
    split at ha
    · rename_i hc
      obtain ⟨h1, h2, h3, h4⟩ := hc
      cases ha
      obtain ⟨q2, rfl⟩ := bound_zero (by omega) hh h2
      obtain ⟨q3, rfl⟩ := bound_zero (by omega) hm h3
      -- how it runs
      have hrun : ∀ (a : Option Addr) (len cap : Nat), (Instr.sliceAt t (.slice a len cap) ul (some (.int q2 0)) (some (.int q3 0))).run P c.w = .ok (.slice a 0 0) c.w := by
        intro a len cap
        have hb : ∀ (q : IntKind) (k : Nat) (cd : BoundsCode), (Instr.sliceBound (.int q 0) k cd).run P c.w = .ok 0 c.w := fun q k cd => run_sliceBound c.w q 0 k cd (by omega) (by omega)
        have bl : (match ul with | some v => Instr.sliceBound v 0 .slice3C | none => (pure 0 : Sem Nat)).run P c.w = .ok 0 c.w := by
          cases lo with
          | none => cases ul with
            | none => rfl
            | some u => exact hl.elim
          | some a => cases ul with
            | none => exact hl.elim
            | some u =>
              cases a with
              | v x =>
                cases hl
                cases u with
                | int q m => simp only [boundOf, Option.some.injEq] at h1; subst h1; exact hb _ _ _
                | _ => simp [boundOf] at h1
              | _ => simp [boundOf] at h1
        simp only [Instr.sliceAt, Instr.slice, Sem.run_bind, underlying, run_program, Result.andThen_ok, hu, Sem.run_pure, Instr.sliceBounds]
        cases ul <;> simp_all
      have hg := Grows.refl c.w
      have ho : ∀ B, (none : Option Nat) = some B → c.w.heap.size ≤ B := fun B h => by cases h
      have hρ : (c.add c.w (.dead) none).ρ c.h.length = none := by simp [Cx.add]
      have hst' : St (c.add c.w (.dead) none) := St.add hst hg _ _ ho trivial
      have htok : ∀ b, some c.h.length = some b → (c.add c.w (.dead) none).tokNil b n := by
        intro b hb
        cases hb
        refine ⟨by simp [Cx.add], fun e2 s2 n2 hg2 => ?_⟩
        simp [Cx.add] at hg2
      have fin : ∀ y : Value, (∃ a len cap, u = .slice a len cap ∧ y = .slice a 0 0) → Rel (c.add c.w (.dead) none) (.sl n [] (some c.h.length)) y →
          ∃ y c', (Instr.sliceAt t u ul (some (.int q2 0)) (some (.int q3 0))).run P c.w = .ok y c'.w ∧ Ev c c' ∧ St c' ∧ c'.h = c.h ++ [.dead] ∧ Rel c' (.sl n [] (some c.h.length)) y := by
        rintro y ⟨a, len, cap, rfl, rfl⟩ hr
        exact ⟨_, c.add c.w (.dead) none, hrun a len cap, Ev.add hst hg _ _ ho, hst', rfl, hr⟩
      cases hx with
      | v u =>
        have : u = .slice none 0 0 := by
          unfold slicy at h4
          split at h4 <;> simp_all
        subst this
        exact fin _ ⟨_, _, _, rfl, rfl⟩ (.slnil _ _ htok)
      | slnil s own ht => exact fin _ ⟨_, _, _, rfl, rfl⟩ (.slnil _ _ htok)
      | slzero s own ba ht => exact fin _ ⟨_, _, _, rfl, rfl⟩ (.slzero _ _ _ htok)
      | sl s xs own B o cap f hs hcap hmax hc hr ht => exact fin _ ⟨_, _, _, rfl, rfl⟩ (.slzero _ _ _ htok)
      | arr id lo len x hid ho' h5 =>
        simp only [slicy] at h4
        split at h4
        · rename_i hb
          obtain ⟨B, cap, hρ', rfl, _⟩ := h5 _ _ _ hb
          exact fin _ ⟨_, _, _, rfl, rfl⟩ (.slzero _ _ _ htok)
        · cases h4
      | _ => simp [slicy] at h4
    · cases ha

/-! ### cap and copy of rows -/

def aCap (P : Program) (t ty : TypeId) (x : AV) (h : AH) : Option AV :=
  match x with
  | .row id _ _ cap => match P.underlying t, h[id]? with
    | some (.slice _), some (.cells _ _ _) => some (.v (goInt cap))
    | _, _ => none
  | .v (.slice none 0 0) => match P.underlying t with
    | some (.slice _) => some (.v (goInt 0))
    | _ => none
  | _ => none

theorem cap_sound {P : Program} {c : Cx} {t ty : TypeId} {x r : AV} {u : Value} (ha : aCap P t ty x c.h = some r) (hx : Rel c x u) :
    ∃ y, (Builtin.cap_ #[t] ty #[u]).run P c.w = .ok y c.w ∧ Rel c r y := by
  cases hx with
  | row id lo len cap x hid ho h1 =>
    simp only [aCap] at ha
    split at ha
    · rename_i e ty' s xs hu hb
      cases ha
      obtain ⟨B, cur, _, rfl, _⟩ := h1 _ _ _ hb
      exact ⟨_, by simp [Builtin.cap_, underlying, hu], .v _⟩
    · cases ha
  | v x =>
    unfold aCap at ha
    split at ha
    · rename_i h0
      cases h0
    · rename_i h0
      cases h0
      split at ha
      · rename_i e hu
        cases ha
        exact ⟨_, by simp [Builtin.cap_, underlying, hu], .v _⟩
      · cases ha
    · cases ha
  | _ => simp [aCap] at ha

def rowOf : AV → Option (Nat × Nat × Nat)
  | .row id lo len _ => some (id, lo, len)
  | .arr id lo len => some (id, lo, len)
  | _ => none

theorem rowOf_rel {c : Cx} {x : AV} {u : Value} {id lo len : Nat} (h : rowOf x = some (id, lo, len)) (hx : Rel c x u) {ty s : Nat} {xs : List AV} (hb : c.h[id]? = some (.cells ty s xs)) :
    ∃ B cap cur, c.ρ id = some B ∧ u = .slice (some ⟨B, lo * s, none⟩) len cap ∧ len ≤ cap ∧ cap ≤ maxLen ∧ c.w.heap[B]? = some (.cells cur ty (0, 0)) ∧ (lo + cap) * s ≤ cur.size := by
  cases hx with
  | arr id' lo' len' x hid ho h1 =>
    simp only [rowOf, Option.some.injEq, Prod.mk.injEq] at h
    obtain ⟨rfl, rfl, rfl⟩ := h
    obtain ⟨B, cap, h2, h3, h4, h5, cur, h6, h7⟩ := h1 _ _ _ hb
    exact ⟨B, cap, cur, h2, h3, h4, h5, h6, h7⟩
  | row id' lo' len' cap x hid ho h1 =>
    simp only [rowOf, Option.some.injEq, Prod.mk.injEq] at h
    obtain ⟨rfl, rfl, rfl⟩ := h
    obtain ⟨B, cur, h2, h3, h4, h5, h6, h7⟩ := h1 _ _ _ hb
    exact ⟨B, cap, cur, h2, h3, h4, h5, h6, h7⟩
  | _ => simp [rowOf] at h

/-- what is copied: the width, the length, the elements from there on -/
def srcRow (h : AH) (x : AV) : Option (Nat × Nat × List AV) :=
  match x with
  | .sl s ys _ => if ys.isEmpty = false then some (s, ys.length, ys) else none
  | x => match rowOf x with
    | some (id, lo, len) => match h[id]? with
      | some (.cells _ s xs) => some (s, len, xs.drop lo)
      | _ => none
    | none => none

theorem srcRow_rel {c : Cx} (hst : St c) {x : AV} {u : Value} {s len k : Nat} {E : List AV} (h : srcRow c.h x = some (s, len, E)) (hx : Rel c x u) (hk : k ≤ E.length) :
    ∃ B o cap, u = .slice (some ⟨B, o, none⟩) len cap ∧ (∀ y ∈ E, y.cells.length = s) ∧ Row c B o (E.take k) := by
  have rows : ∀ {id lo len0 : Nat}, rowOf x = some (id, lo, len0) → (match c.h[id]? with | some (.cells _ s xs) => some (s, len0, xs.drop lo) | _ => none) = some (s, len, E) →
      ∃ B o cap, u = .slice (some ⟨B, o, none⟩) len cap ∧ (∀ y ∈ E, y.cells.length = s) ∧ Row c B o (E.take k) := by
    intro id lo len0 hr he
    split at he
    · rename_i ty s2 xs2 hb2
      cases he
      obtain ⟨B2, cap2, cur2, hρ2, rfl, hlc2, hmax2, hB2, hfit2⟩ := rowOf_rel hr hx hb2
      obtain ⟨B', cur0, g1, g2, g3, g4⟩ := hst.blocks id _ hb2
      rw [hρ2] at g1; cases g1
      rw [hB2] at g2; cases g2
      have hdr : ∀ y ∈ xs2.drop lo, y.cells.length = s := fun y hy => g3 y (List.mem_of_mem_drop hy)
      refine ⟨B2, lo * s, cap2, rfl, hdr, fun j a hj => ?_⟩
      rw [List.length_drop] at hk
      by_cases hlo : lo ≤ xs2.length
      · rw [flat_take hdr (by simp; omega)] at hj
        have hlt := lt_of_get hj
        rw [List.length_take] at hlt
        rw [List.getElem?_take_of_lt (by omega), flat_drop g3 (by omega), List.getElem?_drop] at hj
        obtain ⟨u, h6, h7, h8⟩ := g4 _ a hj
        exact ⟨u, by rw [cell_cells hB2]; exact h6, h7, h8⟩
      · rw [List.drop_eq_nil_of_le (by omega)] at hj
        simp [flat] at hj
    · cases he
  cases x with
  | sl s0 ys own =>
    simp only [srcRow] at h
    split at h
    · rename_i hne
      cases h
      cases hx with
      | slnil => simp at hne
      | slzero => simp at hne
      | sl _ _ _ B o cap f hs hcap hmax hc hr ht =>
        refine ⟨B, o, cap, rfl, hs, fun j a hj => ?_⟩
        have hj' : (flat E)[j]? = some a := by
          rw [flat_take hs hk] at hj
          have hlt := lt_of_get hj
          rw [List.length_take] at hlt
          rwa [List.getElem?_take_of_lt (by omega)] at hj
        exact ⟨f j, (hc j a hj').1.1, (hc j a hj').2, hr j a hj'⟩
    · cases h
  | arr id lo len0 => exact rows rfl h
  | row id lo len0 cap => exact rows rfl h
  | _ => simp [srcRow, rowOf] at h

/-- copy, of one row to another or within one -/
def aCopy (P : Program) (t : TypeId) (d x : AV) (h : AH) : Option (AV × AH) :=
  match elemInfo P t, rowOf d, srcRow h x with
  | some (_, n), some (id, lo, dl), some (s2, sl, E) =>
    match h[id]? with
    | some (.cells ty s xs) =>
      if s = n ∧ s2 = n ∧ lo ≤ xs.length ∧ min sl dl ≤ E.length then
        some (.v (goInt ((min sl dl : Nat) : Int)), h.set id (.cells ty s (xs.take lo ++ E.take (min sl dl) ++ xs.drop (lo + min sl dl))))
      else none
    | _ => none
  | _, _, _ => none

theorem copy_sound {P : Program} {c : Cx} (hst : St c) {t t' ty : TypeId} {d x r : AV} {h' : AH} {ud ux : Value} (ha : aCopy P t d x c.h = some (r, h')) (hd : Rel c d ud) (hx : Rel c x ux) :
    ∃ y c', (Builtin.copy_ #[t, t'] ty #[ud, ux]).run P c.w = .ok y c'.w ∧ Ev c c' ∧ St c' ∧ c'.h = h' ∧ Rel c' r y := by
  unfold aCopy at ha
  split at ha
  · rename_i e n id lo dl s2 sl E he hrd hrx
    split at ha
    · rename_i ty1 s xs hb
      split at ha
      · rename_i hh
        obtain ⟨rfl, rfl, h1, h2⟩ := hh
        cases ha
        obtain ⟨hu, hsz⟩ := elemInfo_run he
        obtain ⟨B, cap, cur, hρ, rfl, hlc, hmax, hB, hfit⟩ := rowOf_rel hrd hd hb
        let k := min sl dl
        obtain ⟨B2, o2, cap2, rfl, hE, hrow⟩ := srcRow_rel hst (k := k) hrx hx h2
        have hys : ∀ y ∈ E.take k, y.cells.length = s2 := fun y hy => hE y (List.mem_of_mem_take hy)
        have hyl0 : (E.take k).length = k := by simp [k]; omega
        have hyl : (flat (E.take k)).length = k * s2 := by rw [flat_length hys, hyl0]
        obtain ⟨news, hnl, hnc, hno, hnr⟩ := row_vals hrow
        have hnl2 : news.length = k * s2 := by rw [hnl, hyl]
        have hf : (Builtin.firstCells s2 k (.slice (some ⟨B2, o2, none⟩) sl cap2)).run P c.w = .ok news.toArray c.w :=
          run_firstCells_some c.w s2 k ⟨B2, o2, none⟩ sl cap2 news hnl2 (fun j v hv => by rw [addr_add]; exact hnc j v hv)
        have hkd : k ≤ dl := Nat.min_le_right _ _
        have hfit' : lo * s2 + news.length ≤ cur.size := by
          rw [hnl2, ← Nat.add_mul]; exact Nat.le_trans (Nat.mul_le_mul_right _ (by omega)) hfit
        have hst1 := run_storeCells_at P B (lo * s2) ty1 news 0 cur c.w hB (by simpa using hfit') hno
        rw [Nat.add_zero] at hst1
        obtain ⟨k1, k2, k3, k4⟩ := seg_sound hst hb hρ hB h1 hys hnl hno hnr hfit'
        rw [hyl0] at k1 k2 k3
        refine ⟨_, _, ?_, k1, k2, rfl, .v _⟩
        have hk : Nat.min sl dl = k := rfl
        simp only [Builtin.copy_, List.getElem?_toArray, List.getElem?_cons_zero, List.getElem?_cons_succ, Sem.run_bind, underlying, run_program, Result.andThen_ok, hu, Sem.run_pure, Builtin.lenOf, hsz, hk, hf, hst1]
        rfl
      · cases ha
    · cases ha
  · cases ha

/-! ### make of a slice without elements -/

def aMake (P : Program) (t : TypeId) (l c : AV) (h : AH) : Option (AV × AH) :=
  match l, c with
  | .v (.int _ 0), .v (.int _ n) => match elemInfo P t with
    | some (e, k) => match P.info? e with
      | some i => match i.zero with
        | some _ => if 0 ≤ n ∧ (i.bytes : Int) * n ≤ 281474976710656 ∧ n ≤ maxLen ∧ i.size = k then some (.sl k [] (some h.length), h ++ [.grow e k 0]) else none
        | none => none
      | none => none
    | none => none
  | _, _ => none

theorem make_sound {P : Program} {c : Cx} (hst : St c) {t : TypeId} {l n r : AV} {h' : AH} {ul un : Value} (ha : aMake P t l n c.h = some (r, h')) (hl : Rel c l ul) (hn : Rel c n un) :
    ∃ y c', (Instr.makeSlice t ul un).run P c.w = .ok y c'.w ∧ Ev c c' ∧ St c' ∧ c'.h = h' ∧ Rel c' r y := by
  unfold aMake at ha
  split at ha
  · rename_i q1 q2 n
    cases hl; cases hn
    split at ha
    · rename_i e k he
      obtain ⟨hu, hsz⟩ := elemInfo_run he
      split at ha
      · rename_i i hi
        split at ha
        · rename_i z hz
          split at ha
          · rename_i hh
            obtain ⟨h0, hb, hm, rfl⟩ := hh
            cases ha
            have h63 : n ≤ 9223372036854775807 := by simp only [maxLen] at hm; omega
            have hrun := run_make (P := P) c.w t e i z hu hi hz q1 q2 0 n (Int.le_refl _) h0 hb h63
            have hg : Grows c.w (c.w.alloc (.cells (madeCells z.cells (n.toNat * i.size)) e)) := Grows.alloc _ _
            have ho : ∀ B, some c.w.heap.size = some B → c.w.heap.size ≤ B := fun B h => by cases h; exact Nat.le_refl _
            have hev := Ev.add hst hg (.grow e i.size 0) (some c.w.heap.size) ho
            have hρ : (c.add (c.w.alloc (.cells (madeCells z.cells (n.toNat * i.size)) e)) (.grow e i.size 0) (some c.w.heap.size)).ρ c.h.length = some c.w.heap.size := by simp [Cx.add]
            have hheap : (c.w.alloc (.cells (madeCells z.cells (n.toNat * i.size)) e)).heap[c.w.heap.size]? = some (.cells (madeCells z.cells (n.toNat * i.size)) e (0, 0)) := heap_alloc_top c.w _
            have hst' := St.add hst hg (.grow e i.size 0) (some c.w.heap.size) ho (by
              intro B hB
              rw [hρ] at hB; cases hB
              exact ⟨_, hheap, by omega⟩)
            refine ⟨_, _, hrun, hev, hst', rfl, ?_⟩
            refine .sl i.size [] (some c.h.length) c.w.heap.size 0 n.toNat (fun _ => undef) (by simp) (Nat.zero_le _) (by simp only [maxLen] at hm ⊢; omega) (by simp [flat]) (by simp [flat]) ?_
            intro b hb'
            cases hb'
            refine ⟨⟨by simp [Cx.add], .grow e i.size 0, by simp [Cx.add], rfl⟩, fun e2 s2 n2 hg2 => ?_⟩
            simp [Cx.add] at hg2
            obtain ⟨rfl, rfl, rfl⟩ := hg2
            exact ⟨rfl, Nat.le_refl _, fun _ => ⟨rfl, hρ, Nat.zero_le _, by simp only [maxLen] at hm ⊢; omega, _, hheap, size_madeCells _ _⟩⟩
          · cases ha
        · cases ha
      · cases ha
    · cases ha
  · cases ha

end Go.Proofs.YthkiabcdkhpheaaDoor.Ab

/-
  The abstract program logic: comparisons, parts of structs and tuples, maps.
-/
set_option linter.unusedVariables false
namespace Go.Proofs.YthkiabcdkhpheaaDoor.Ab

/-! ### comparison with nil -/

/-- a value that is not nil, of a type that is compared with nil -/
def notNil (P : Program) (t : TypeId) (h : AH) : AV → Value → Bool
  | .sl _ (_ :: _) _, .slice none 0 0 => match P.underlying t with | some (.slice _) => true | _ => false
  | .arr id _ _, .slice none 0 0 => match P.underlying t, h[id]? with | some (.slice _), some (.cells _ _ _) => true | _, _ => false
  | .ptr id _ _, .pointer none => match P.underlying t, h[id]? with | some (.pointer _), some (.cells _ _ _) => true | _, _ => false
  | .pin _ _ _ _, .pointer none => match P.underlying t with | some (.pointer _) => true | _ => false
  | .mp id, .map none => match P.underlying t, h[id]? with | some (.map _ _), some (.map _) => true | _, _ => false
  | .fn _ _ _, .nilFunc => match P.underlying t with | some (.func _ _ _) => true | _ => false
  | .ifc _ _, .nilIface => match P.underlying t with | some (.interface _) => true | _ => false
  | _, _ => false

theorem notNil_sound {P : Program} {c : Cx} (hst : St c) {t : TypeId} {x : AV} {u y : Value} (h : notNil P t c.h x y = true) (hx : Rel c x u) (d : Nat) : (Op.equalIn (d + 1) t u y).run P c.w = .ok false c.w := by
  cases hx with
  | sl s xs own B o cap f hs hcap hmax hc hr ht =>
    cases xs with
    | nil => simp [notNil] at h
    | cons z zs =>
      simp only [notNil] at h
      split at h <;> simp_all
      split at h <;> simp_all
      rename_i hu
      simp [Op.equalIn, underlying, hu]
  | arr id lo len x hid ho h1 =>
    simp only [notNil] at h
    split at h <;> simp_all
    split at h <;> simp_all
    rename_i hu hb
    obtain ⟨B, _, cap, rfl, _⟩ := h1
    simp [Op.equalIn, underlying, hu]
  | ptr id k off x hid ho h1 =>
    simp only [notNil] at h
    split at h <;> simp_all
    split at h <;> simp_all
    rename_i hu hb
    obtain ⟨B, _, rfl⟩ := h1
    simp [Op.equalIn, underlying, hu]
  | pin s xs k off B o f hs hc hr =>
    simp only [notNil] at h
    split at h <;> simp_all
    split at h <;> simp_all
    rename_i hu
    simp [Op.equalIn, underlying, hu]
  | mp id x hid ho h1 =>
    simp only [notNil] at h
    split at h <;> simp_all
    split at h <;> simp_all
    rename_i hu hb
    first | (obtain ⟨B, _, rfl⟩ := h1.1; simp [Op.equalIn, underlying, hu]) | (obtain ⟨B, _, rfl⟩ := h1; simp [Op.equalIn, underlying, hu])
  | fn f first cap vs ws e1 e2 h1 h2 =>
    simp only [notNil] at h
    split at h <;> simp_all
    split at h <;> simp_all
    rename_i hu
    simp [Op.equalIn, underlying, hu]
  | ifc t' a u h1 =>
    simp only [notNil] at h
    split at h <;> simp_all
    split at h <;> simp_all
    rename_i hu
    simp [Op.equalIn, underlying, hu]
  | _ => simp [notNil] at h

/-- the same pointer twice -/
def aPtrEq (P : Program) (op : BinOp) (t : TypeId) (x y : AV) (h : AH) : Option AV :=
  match x, y with
  | .ptr i k o, .ptr i' k' o' => match P.underlying t, h[i]? with
    | some (.pointer te), some (.cells _ _ _) => if i = i' ∧ k = k' ∧ o = o' ∧ (P.info? te).isSome = true then (match op with | .eql => some (.v (.bool true)) | .neq => some (.v (.bool false)) | _ => none) else none
    | _, _ => none
  | _, _ => none
theorem ptrEq_sound {P : Program} {c : Cx} {op : BinOp} {t : TypeId} {xo yo : Operand} {x y r : AV} {u v : Value} (ha : aPtrEq P op t x y c.h = some r) (hx : Rel c x u) (hy : Rel c y v) :
    ∃ z, (do eqGuard op t xo yo u v; binOp op t u v : Sem Value).run P c.w = .ok z c.w ∧ Rel c r z := by
  unfold aPtrEq at ha
  split at ha
  · rename_i i k o i' k' o'
    split at ha
    · rename_i te ty s xs ht hb
      split at ha
      · rename_i hh
        obtain ⟨rfl, rfl, rfl, hi⟩ := hh
        obtain ⟨j, hj⟩ := Option.isSome_iff_exists.1 hi
        cases hx with
        | ptr _ _ _ x _ _ h1 =>
          obtain ⟨B, hρ, rfl⟩ := h1 _ _ _ hb
          cases hy with
          | ptr _ _ _ y _ _ h2 =>
            obtain ⟨B', hρ', rfl⟩ := h2 _ _ _ hb
            rw [hρ] at hρ'; cases hρ'
            have he : (Op.equal t (.pointer (some ⟨B, k * s + o, none⟩)) (.pointer (some ⟨B, k * s + o, none⟩))).run P c.w = .ok true c.w := by
              have h : ∀ d : Nat, (Op.equalIn (d + 1) t (.pointer (some ⟨B, k * s + o, none⟩)) (.pointer (some ⟨B, k * s + o, none⟩))).run P c.w = .ok true c.w := fun d => by
                simp [Op.equalIn, run_underlying ht, sizeOf, typeInfo, hj, run_sameAddr_same]
              exact h 9999
            split at ha
            · cases ha; exact ⟨.bool true, by simp [eqGuard, binOp, he], .v _⟩
            · cases ha; exact ⟨.bool false, by simp [eqGuard, binOp, he], .v _⟩
            · cases ha
      · cases ha
    · cases ha
  · cases ha

def aBin (P : Program) (op : BinOp) (t : TypeId) (xo yo : Operand) (x y : AV) (h : AH) : Option AV :=
  match x, y with
  | .v a, .v b => (pv P (do eqGuard op t xo yo a b; binOp op t a b)).map .v
  | x, .v b => match op with
    | .eql => if notNil P t h x b = true then some (.v (.bool false)) else none
    | .neq => if notNil P t h x b = true then some (.v (.bool true)) else none
    | _ => none
  | .ptr i k o, .ptr i' k' o' => aPtrEq P op t (.ptr i k o) (.ptr i' k' o') h
  | _, _ => none

theorem notNil_shape {P : Program} {t : TypeId} {h : AH} {x : AV} {b : Value} (hn : notNil P t h x b = true) : b = .slice none 0 0 ∨ b = .pointer none ∨ b = .map none ∨ b = .nilFunc ∨ b = .nilIface := by
  unfold notNil at hn
  split at hn <;> simp_all

theorem bin_sound {P : Program} {c : Cx} (hst : St c) {op : BinOp} {t : TypeId} {xo yo : Operand} {x y r : AV} {u v : Value} (ha : aBin P op t xo yo x y c.h = some r) (hx : Rel c x u) (hy : Rel c y v) :
    ∃ z, (do eqGuard op t xo yo u v; binOp op t u v : Sem Value).run P c.w = .ok z c.w ∧ Rel c r z := by
  unfold aBin at ha
  split at ha
  · cases hx; cases hy
    rename_i a b
    cases hp : pv P (do eqGuard op t xo yo u v; binOp op t u v) with
    | none => simp [hp] at ha
    | some z => simp [hp] at ha; subst ha; exact ⟨z, pv_run hp _, .v z⟩
  · rename_i b hnv
    cases hy
    have key : notNil P t c.h x v = true → ∀ neg : Bool, (op = .eql ∧ neg = false ∨ op = .neq ∧ neg = true) →
        (do eqGuard op t xo yo u v; binOp op t u v : Sem Value).run P c.w = .ok (.bool neg) c.w := by
      intro hn neg hop
      have h1 := notNil_sound hst hn hx 9999
      have h2 : (Op.equal t u v).run P c.w = .ok false c.w := h1
      have hshape : (∃ a n k, u = .slice (some a) n k ∧ v = .slice none 0 0) ∨ (∃ a, u = .pointer (some a) ∧ v = .pointer none) ∨ (∃ a, u = .map (some a) ∧ v = .map none) ∨ (∃ f a b, u = .func f a b ∧ v = .nilFunc) ∨ (∃ t' a, u = .iface t' a ∧ v = .nilIface) := by
        cases hx with
        | sl s xs own B o cap f hs hcap hmax hc hr ht =>
          cases xs with
          | nil => simp [notNil] at hn
          | cons z zs => simp only [notNil] at hn; split at hn <;> simp_all
        | arr id lo len x hid ho h3 =>
          simp only [notNil] at hn
          split at hn <;> simp_all
          split at hn <;> simp_all
          obtain ⟨B, _, cap, rfl, _⟩ := h3
          exact ⟨_, _, _, rfl⟩
        | ptr id k off x hid ho h3 =>
          simp only [notNil] at hn
          split at hn <;> simp_all
          split at hn <;> simp_all
          obtain ⟨B, _, rfl⟩ := h3
          exact ⟨_, rfl⟩
        | pin s xs k off B o f hs hc hr => simp only [notNil] at hn; split at hn <;> simp_all
        | mp id x hid ho h3 =>
          simp only [notNil] at hn
          split at hn <;> simp_all
          split at hn <;> simp_all
          obtain ⟨B, _, rfl⟩ := h3
          exact ⟨_, rfl⟩
        | fn f first cap vs ws e1 e2 h3 h4 => simp only [notNil] at hn; split at hn <;> simp_all
        | ifc t' a u h3 => simp only [notNil] at hn; split at hn <;> simp_all
        | _ => simp [notNil] at hn
      rcases hshape with ⟨a, n, k, rfl, rfl⟩ | ⟨a, rfl, rfl⟩ | ⟨a, rfl, rfl⟩ | ⟨f, a, b, rfl, rfl⟩ | ⟨t', a, rfl, rfl⟩ <;> rcases hop with ⟨rfl, rfl⟩ | ⟨rfl, rfl⟩ <;>
        simp [eqGuard, binOp, h2]
    split at ha
    · split at ha
      · rename_i hn; cases ha; exact ⟨_, key hn false (.inl ⟨rfl, rfl⟩), .v _⟩
      · cases ha
    · split at ha
      · rename_i hn; cases ha; exact ⟨_, key hn true (.inr ⟨rfl, rfl⟩), .v _⟩
      · cases ha
    · cases ha
  · exact ptrEq_sound ha hx hy
  · cases ha

/-! ### parts -/

def aField (P : Program) (t : TypeId) (x : AV) (i : Nat) : Option AV :=
  match fieldInfo P t i with
  | some (o, ft) => if x.isAgg = true then aPart P ft x o else none
  | none => none

theorem field_sound {P : Program} {c : Cx} {t : TypeId} {x r : AV} {i : Nat} {u : Value} (ha : aField P t x i = some r) (hx : Rel c x u) : ∃ y, (Instr.field t u i).run P c.w = .ok y c.w ∧ Rel c r y := by
  unfold aField at ha
  cases hf : fieldInfo P t i with
  | none => simp [hf] at ha
  | some ot =>
    obtain ⟨o, ft⟩ := ot
    simp only [hf] at ha
    split at ha
    · rename_i hag
      cases hx with
      | agg l cs hl hr =>
        unfold fieldInfo at hf
        cases hu : P.underlying t with
        | none => simp [hu] at hf
        | some d =>
          cases d with
          | struct fs =>
            simp only [hu] at hf
            cases hfi : fs[i]? with
            | none => simp [hfi] at hf
            | some f =>
              simp only [hfi] at hf
              cases ht : tyInfo P f.type with
              | none => simp [ht] at hf
              | some bn =>
                obtain ⟨b, n⟩ := bn
                simp only [ht] at hf
                split at hf
                · cases hf
                · cases hf
                  obtain ⟨h1, h2⟩ := tyInfo_run ht c.w
                  have run0 : (Instr.field t (.agg cs) i).run P c.w = (part f.type cs f.offset).run P c.w := by
                    simp [Instr.field, underlying, hu, hfi, asAgg]
                  rw [run0]
                  unfold aPart at ha
                  cases b with
                  | false =>
                    simp only [ht, AV.cells] at ha
                    obtain ⟨v, hv⟩ : ∃ v, cs[f.offset]? = some v := ⟨_, Array.getElem?_eq_getElem (by have := lt_of_get ha; omega)⟩
                    exact ⟨v, by simp [part, h1, hv], hr _ _ _ ha hv⟩
                  | true =>
                    simp only [ht] at ha
                    have main : ∀ l', l'.length = n → (∀ (j : Nat) a, l'[j]? = some a → l[f.offset + j]? = some a) → f.offset + n ≤ l.length →
                        ∃ y, (part f.type cs f.offset).run P c.w = .ok y c.w ∧ Rel c (.agg l') y := by
                      intro l' hl' hget hle
                      refine ⟨.agg (cs.extract f.offset (f.offset + n)), by simp [part, h1, h2], .agg _ _ (by simp; omega) ?_⟩
                      intro j a v haj hvj
                      rw [Array.getElem?_extract] at hvj
                      split at hvj
                      · exact hr _ a v (hget j a haj) hvj
                      · cases hvj
                    split at ha
                    · rename_i hh
                      cases ha
                      obtain ⟨h3, _, h4⟩ := hh
                      have h4' : l.length = n := h4
                      rw [h3] at main ⊢
                      exact main l h4' (fun j a ha => by simpa using ha) (by omega)
                    · split at ha
                      · rename_i hle0
                        have hle : f.offset + n ≤ l.length := hle0
                        cases ha
                        refine main ((l.drop f.offset).take n) (by simp; omega) (fun j a haj => ?_) hle
                        have hlt := lt_of_get haj
                        rw [List.getElem?_take_of_lt (by simp at hlt; omega), List.getElem?_drop] at haj
                        exact haj
                      · cases ha
          | _ => simp [hu] at hf
      | _ => simp [AV.isAgg] at hag
    · cases ha

def aExtract (x : AV) (i : Nat) : Option AV :=
  match x with
  | .tup l => l[i]?
  | _ => none

theorem extract_sound {P : Program} {c : Cx} {x r : AV} {i : Nat} {u : Value} (ha : aExtract x i = some r) (hx : Rel c x u) : ∃ y, (Instr.extract u i).run P c.w = .ok y c.w ∧ Rel c r y := by
  cases hx with
  | tup l cs hl hr =>
    simp only [aExtract] at ha
    obtain ⟨v, hv⟩ : ∃ v, cs[i]? = some v := ⟨_, Array.getElem?_eq_getElem (by have := lt_of_get ha; omega)⟩
    exact ⟨v, by simp [Instr.extract, hv], hr _ _ _ ha hv⟩
  | _ => simp [aExtract] at ha

/-! ### maps -/

/-- the kind of a map's key (numbers, strings, bools), its elements' type -/
def mapInfo (P : Program) (t : TypeId) : Option (TypeDesc × TypeId) :=
  match P.underlying t with
  | some (.map k e) => match P.underlying k with
    | some (.int q) => some (.int q, e)
    | some .string => some (.string, e)
    | some .bool => some (.bool, e)
    | _ => none
  | _ => none

theorem mapInfo_spec {P : Program} {t e : TypeId} {d : TypeDesc} (h : mapInfo P t = some (d, e)) : ∃ k, P.underlying t = some (.map k e) ∧ P.underlying k = some d ∧ ((∃ q, d = .int q) ∨ d = .string ∨ d = .bool) := by
  unfold mapInfo at h
  split at h
  · rename_i k e' hu
    split at h
    · rename_i q hk; cases h; exact ⟨k, hu, hk, .inl ⟨q, rfl⟩⟩
    · rename_i hk; cases h; exact ⟨k, hu, hk, .inr (.inl rfl)⟩
    · rename_i hk; cases h; exact ⟨k, hu, hk, .inr (.inr rfl)⟩
    · cases h
  · cases h

theorem checkKey_run {P : Program} {w : World} {k : TypeId} {d : TypeDesc} (hk : P.underlying k = some d) (hd : (∃ q, d = .int q) ∨ d = .string ∨ d = .bool) (b : Bool) (n : Nat) (v : Value) : (Instr.checkKey b (n + 1) k v).run P w = .ok () w := by
  rcases hd with ⟨q, rfl⟩ | rfl | rfl <;> simp [Instr.checkKey, underlying, hk]

def findA (d : TypeDesc) (k : Value) : List (Value × AV) → Option (Option AV)
  | [] => some none
  | e :: es => match Instr.sameNow d k e.1 with
    | some true => some (some e.2)
    | some false => findA d k es
    | none => none

def updA (d : TypeDesc) (k : Value) (v : AV) : List (Value × AV) → Option (List (Value × AV))
  | [] => some [(k, v)]
  | e :: es => match Instr.sameNow d k e.1 with
    | some true => some ((k, v) :: es)
    | some false => (updA d k v es).map (e :: ·)
    | none => none

/-- entries of the world and abstract entries -/
def RelM (c : Cx) (es : List (Value × AV)) (ents : List MapEntry) : Prop :=
  ents.length = es.length ∧ ∀ (j : Nat) kv e, es[j]? = some kv → ents[j]? = some e → e.key = kv.1 ∧ Rel c kv.2 e.val

theorem RelM.tail {c : Cx} {x : Value × AV} {es : List (Value × AV)} {e : MapEntry} {ents : List MapEntry} (h : RelM c (x :: es) (e :: ents)) : RelM c es ents :=
  ⟨by simpa using h.1, fun j kv e' h1 h2 => h.2 (j + 1) kv e' (by simpa using h1) (by simpa using h2)⟩
theorem RelM.head {c : Cx} {x : Value × AV} {es : List (Value × AV)} {e : MapEntry} {ents : List MapEntry} (h : RelM c (x :: es) (e :: ents)) : e.key = x.1 ∧ Rel c x.2 e.val :=
  h.2 0 x e (by simp) (by simp)

theorem find_sound {c : Cx} {d : TypeDesc} {k : Value} : ∀ {es : List (Value × AV)} {ents : List MapEntry} {r : Option AV} (i : Nat), RelM c es ents → findA d k es = some r →
    match r with
    | none => Instr.findNow d k ents i = some none
    | some a => ∃ j v, Instr.findNow d k ents i = some (some (j, v)) ∧ Rel c a v
  | [], [], r, i, _, h => by simp only [findA, Option.some.injEq] at h; subst h; rfl
  | [], _ :: _, r, i, hm, _ => by have := hm.1; simp at this
  | _ :: _, [], r, i, hm, _ => by have := hm.1; simp at this
  | x :: es, e :: ents, r, i, hm, h => by
    obtain ⟨hk, hv⟩ := hm.head
    simp only [findA] at h
    split at h
    · rename_i hs
      cases h
      exact ⟨i, e.val, by simp only [Instr.findNow, hk, hs], hv⟩
    · rename_i hs
      have ih := find_sound (i + 1) hm.tail h
      simp only [Instr.findNow, hk, hs]
      exact ih
    · cases h

theorem bytes_beq {a b : ByteArray} (h : (a == b) = true) : a = b := by
  have h' : (a.data == b.data) = true := h
  have := eq_of_beq h'
  cases a; cases b; simp_all
theorem bytes_beq_self (a : ByteArray) : (a == a) = true := by
  show (a.data == a.data) = true
  exact beq_self_eq_true _

theorem sameNow_bits {d : TypeDesc} {k k' : Value} {n : Nat} (h : Instr.sameNow d k k' = some true) : Instr.sameBits n k' k = true := by
  unfold Instr.sameNow at h
  split at h
  · split at h
    · rename_i he
      simp only [Option.some.injEq] at h
      have h' := eq_of_beq h
      subst he; subst h'
      cases n <;> simp [Instr.sameBits]
    · cases h
  · simp only [Option.some.injEq] at h
    have h' := bytes_beq h
    subst h'
    cases n <;> simp [Instr.sameBits, bytes_beq_self]
  · simp only [Option.some.injEq] at h
    have h' := eq_of_beq h
    subst h'
    cases n <;> simp [Instr.sameBits]
  · cases h

/-- where an update goes -/
theorem upd_sound {c : Cx} {d : TypeDesc} {k u : Value} {v : AV} (hv : Rel c v u) (clock : Nat) : ∀ {es : List (Value × AV)} {ents : List MapEntry} {es' : List (Value × AV)} (i : Nat), RelM c es ents → updA d k v es = some es' →
    (Instr.findNow d k ents i = some none ∧ RelM c es' (ents ++ [{ key := k, val := u, born := clock }])) ∨
    ∃ j v0 e0, Instr.findNow d k ents i = some (some (i + j, v0)) ∧ ents[j]? = some e0 ∧ Instr.sameNow d k e0.key = some true ∧ RelM c es' (ents.modify j fun e => { e with key := k, val := u })
  | [], [], es', i, hm, h => by
    simp only [updA, Option.some.injEq] at h
    subst h
    refine .inl ⟨rfl, rfl, fun j kv e h1 h2 => ?_⟩
    cases j with
    | zero => simp at h1 h2; subst h1; subst h2; exact ⟨rfl, hv⟩
    | succ j => simp at h1
  | [], _ :: _, _, i, hm, _ => by have := hm.1; simp at this
  | _ :: _, [], _, i, hm, _ => by have := hm.1; simp at this
  | x :: es, e :: ents, es', i, hm, h => by
    obtain ⟨hk, hv'⟩ := hm.head
    simp only [updA] at h
    split at h
    · rename_i hs
      cases h
      refine .inr ⟨0, e.val, e, by simp only [Instr.findNow, hk, hs, Nat.add_zero], rfl, by rw [hk]; exact hs, by simpa using hm.1, fun j kv e' h1 h2 => ?_⟩
      cases j with
      | zero => simp at h1 h2; subst h1; subst h2; exact ⟨rfl, hv⟩
      | succ j => simp at h1 h2; exact hm.2 (j + 1) kv e' (by simpa using h1) (by simpa using h2)
    · rename_i hs
      cases hr : updA d k v es with
      | none => simp [hr] at h
      | some es2 =>
        simp only [hr, Option.map_some, Option.some.injEq] at h
        subst h
        rcases upd_sound hv clock (i + 1) hm.tail hr with ⟨h1, h2⟩ | ⟨j, v0, e0, h1, h2, h3, h4⟩
        · refine .inl ⟨by simp only [Instr.findNow, hk, hs, h1], by have := h2.1; simp at this ⊢; omega, fun j kv e' h5 h6 => ?_⟩
          cases j with
          | zero => simp at h5 h6; subst h5; subst h6; exact ⟨hk, hv'⟩
          | succ j => exact h2.2 j kv e' (by simpa using h5) (by simpa using h6)
        · refine .inr ⟨j + 1, v0, e0, by simp only [Instr.findNow, hk, hs, h1]; congr 3; omega, by simpa using h2, h3, by have := h4.1; simp at this ⊢; omega, fun j' kv e' h5 h6 => ?_⟩
          cases j' with
          | zero => simp at h5 h6; subst h5; subst h6; exact ⟨hk, hv'⟩
          | succ j' => exact h4.2 j' kv e' (by simpa using h5) (by simpa using h6)
    · cases h

def aLookup (P : Program) (t : TypeId) (x k : AV) (ok : Bool) (h : AH) : Option AV :=
  match mapInfo P t with
  | some (d, e) =>
    match k with
    | .v kv =>
      match (match x with
        | .mp id => match h[id]? with
          | some (.map es) => findA d kv es
          | _ => none
        | .v (.map none) => some none
        | _ => none : Option (Option AV)) with
      | some (some a) => some (if ok then .tup [a, .v (.bool true)] else a)
      | some none => match zeroAV P e with
        | some z => some (if ok then .tup [z, .v (.bool false)] else z)
        | none => none
      | none => none
    | _ => none
  | none => none

theorem rel_tup2 {c : Cx} {a b : AV} {u v : Value} (h1 : Rel c a u) (h2 : Rel c b v) : Rel c (.tup [a, b]) (.tuple #[u, v]) := by
  refine .tup _ _ rfl ?_
  intro j x y hx hy
  cases j with
  | zero => simp at hx hy; subst hx; subst hy; exact h1
  | succ j => cases j with
    | zero => simp at hx hy; subst hx; subst hy; exact h2
    | succ j => simp at hx

theorem lookup_sound {P : Program} {c : Cx} (hst : St c) {t : TypeId} {x k r : AV} {ok : Bool} {u v : Value} (ha : aLookup P t x k ok c.h = some r) (hx : Rel c x u) (hk : Rel c k v) :
    ∃ y, (Instr.lookup t u v ok).run P c.w = .ok y c.w ∧ Rel c r y := by
  unfold aLookup at ha
  cases hm : mapInfo P t with
  | none => simp [hm] at ha
  | some de =>
    obtain ⟨d, e⟩ := de
    obtain ⟨kt, hu, hkt, hd⟩ := mapInfo_spec hm
    simp only [hm] at ha
    cases hk with
    | v v =>
      simp only at ha
      -- how the run goes on behind the entries
      have fin : ∀ (ents : List MapEntry) (q : Option AV), (match q with
            | none => Instr.findNow d v ents 0 = some none
            | some a => ∃ j y, Instr.findNow d v ents 0 = some (some (j, y)) ∧ Rel c a y) →
          (match q with
            | some a => some (if ok then .tup [a, .v (.bool true)] else a)
            | none => match zeroAV P e with
              | some z => some (if ok then .tup [z, .v (.bool false)] else z)
              | none => none) = some r →
          ∃ y, ((do
            let (w, ok') ← match ← Instr.findKey kt v ents with
              | some (_, w) => pure (w, true)
              | none => pure (← zeroValue e, false)
            pure (if ok then .tuple #[w, .bool ok'] else w) : Sem Value)).run P c.w = .ok y c.w ∧ Rel c r y := by
        intro ents q hq hr
        cases q with
        | none =>
          simp only at hq hr
          cases hz : zeroAV P e with
          | none => simp [hz] at hr
          | some z =>
            simp only [hz, Option.some.injEq] at hr
            subst hr
            obtain ⟨zv, hrun, rfl⟩ := zeroAV_run hz
            refine ⟨if ok then .tuple #[zv, .bool false] else zv, by simp [Instr.findKey, underlying, hkt, hq, hrun], ?_⟩
            cases ok
            · exact rel_ofV c zv
            · exact rel_tup2 (rel_ofV c zv) (.v _)
        | some a =>
          obtain ⟨j, y, h1, h2⟩ := hq
          simp only [Option.some.injEq] at hr
          subst hr
          refine ⟨if ok then .tuple #[y, .bool true] else y, by simp [Instr.findKey, underlying, hkt, h1], ?_⟩
          cases ok
          · exact h2
          · exact rel_tup2 h2 (.v _)
      cases hx with
      | mp id x hid ho h1 =>
        simp only at ha
        split at ha
        case h_1 a heq =>
          split at heq
          · rename_i es hb
            obtain ⟨B, hρ, rfl⟩ := h1.1 _ hb
            obtain ⟨B', ents, clock, h2, h3, h4, h5⟩ := hst.blocks id _ hb
            rw [hρ] at h2; cases h2
            have hrm : RelM c es ents.toList := ⟨by simpa using h4, fun j kv e h6 h7 => h5 j kv e h6 (by simpa using h7)⟩
            have hf := find_sound 0 hrm heq
            obtain ⟨y, h6, h7⟩ := fin ents.toList (some a) hf ha
            refine ⟨y, ?_, h7⟩
            rw [← h6]
            simp [Instr.lookup, underlying, hu, run_getObj_map h3, checkKey_run hkt hd]
            rfl
          · cases heq
        case h_2 heq =>
          split at heq
          · rename_i es hb
            obtain ⟨B, hρ, rfl⟩ := h1.1 _ hb
            obtain ⟨B', ents, clock, h2, h3, h4, h5⟩ := hst.blocks id _ hb
            rw [hρ] at h2; cases h2
            have hrm : RelM c es ents.toList := ⟨by simpa using h4, fun j kv e h6 h7 => h5 j kv e h6 (by simpa using h7)⟩
            have hf := find_sound 0 hrm heq
            obtain ⟨y, h6, h7⟩ := fin ents.toList none hf ha
            refine ⟨y, ?_, h7⟩
            rw [← h6]
            simp [Instr.lookup, underlying, hu, run_getObj_map h3, checkKey_run hkt hd]
            rfl
          · cases heq
        case h_3 heq => cases ha
      | v x =>
        cases u with
        | map o =>
          cases o with
          | none =>
            obtain ⟨y, h6, h7⟩ := fin [] none rfl ha
            refine ⟨y, ?_, h7⟩
            rw [← h6]
            simp [Instr.lookup, underlying, hu, checkKey_run hkt hd]
            rfl
          | some q => simp at ha
        | _ => simp at ha
      | _ => simp at ha
    | _ => simp at ha

end Go.Proofs.YthkiabcdkhpheaaDoor.Ab

/-
  The abstract program logic: pointers: those that are not nil, equal ones, those that pass by unsafe.Pointer; what an interface holds; strings as rows of bytes.
-/
set_option linter.unusedVariables false
namespace Go.Proofs.YthkiabcdkhpheaaDoor.Ab

/-! ### pointers -/

/-- a pointer that is not nil -/
def aNotNilP (h : AH) : AV → Bool
  | .ptr id _ _ => match h[id]? with | some (.cells _ _ _) => true | _ => false
  | .pin _ _ _ _ => true
  | _ => false
theorem notNilP_sound {c : Cx} {x : AV} {u : Value} (h : aNotNilP c.h x = true) (hx : Rel c x u) : ∃ a, u = .pointer (some a) := by
  cases hx with
  | ptr id k off x hid ho h1 =>
    simp only [aNotNilP] at h
    split at h
    · rename_i ty s xs hb
      obtain ⟨B, _, rfl⟩ := h1 _ _ _ hb
      exact ⟨_, rfl⟩
    · cases h
  | pin s xs k off B o f hs hc hr => exact ⟨_, rfl⟩
  | _ => simp [aNotNilP] at h

theorem rowAt_mono {P : Program} {fits : TypeId → Bool} {off n count count' : Nat} (h : count ≤ count') : ∀ {d : Nat} {e : TypeId}, rowAt P fits d e count off n = true → rowAt P fits d e count' off n = true
  | 0, e, hr => by simp [rowAt] at hr
  | d + 1, e, hr => by
    simp only [rowAt] at hr ⊢
    split at hr
    · cases hr
    · rename_i hs
      simp only [hs, if_false, Bool.or_eq_true, Bool.and_eq_true, decide_eq_true_eq] at hr ⊢
      rcases hr with ⟨⟨h1, h2⟩, h3⟩ | ⟨h1, h2⟩
      · exact .inl ⟨⟨h1, by omega⟩, h3⟩
      · exact .inr ⟨by omega, h2⟩
theorem liesAt_mono {P : Program} {e : TypeId} {count count' off : Nat} (h : count ≤ count') : ∀ {d : Nat} {u : TypeId} {n : Nat}, liesAt P d e count off u n = true → liesAt P d e count' off u n = true
  | 0, u, n, hr => by simp [liesAt] at hr
  | d + 1, u, n, hr => by
    simp only [liesAt, Bool.or_eq_true] at hr ⊢
    rcases hr with h1 | h1
    · exact .inl (rowAt_mono h h1)
    · refine .inr ?_
      split at h1
      · exact liesAt_mono h h1
      · cases h1

/-- a pointer becomes an unsafe.Pointer, or one of these a pointer again -/
def aUnsafe (P : Program) (s d : TypeId) (id k off : Nat) (h : AH) : Option AV :=
  match h[id]? with
  | some (.cells ty sz xs) => if xs.length * sz = 0 ∨ ¬ k * sz + off < xs.length * sz then none else match P.underlying s, P.underlying d with
    | some (.pointer t), some .unsafePointer => match P.info? t with
      | some j => if j.size ≠ 0 then some (.ptr id k off) else none
      | none => none
    | some .unsafePointer, some (.pointer u) => if (P.info? u).isSome = true ∧ P.cellsOf ty = sz ∧ liesAt P P.depth ty xs.length (k * sz + off) u 1 = true then some (.ptr id k off) else none
    | _, _ => none
  | _ => none
theorem unsafe_sound {P : Program} {c : Cx} (hst : St c) {s d : TypeId} {id k off : Nat} {r : AV} {u : Value} (ha : aUnsafe P s d id k off c.h = some r) (hx : Rel c (.ptr id k off) u) :
    ∃ y, (convert s d u).run P c.w = .ok y c.w ∧ Rel c r y := by
  unfold aUnsafe at ha
  split at ha
  · rename_i ty sz xs hb
    split at ha
    · cases ha
    rename_i hlt
    have hxr := hx
    cases hx with
    | ptr _ _ _ x _ _ h1 =>
      obtain ⟨B, hρ, rfl⟩ := h1 _ _ _ hb
      obtain ⟨B', cur, h2, h3, h4, h5⟩ := hst.blocks id _ hb
      rw [hρ] at h2; cases h2
      have hfl := flat_length h4
      have hsz : xs.length * sz ≤ cur.size := by
        rcases Nat.eq_zero_or_pos (xs.length * sz) with h | h
        · omega
        · have hj : (flat xs)[xs.length * sz - 1]? = some (flat xs)[xs.length * sz - 1] := List.getElem?_eq_getElem (by omega)
          obtain ⟨u, hu, _⟩ := h5 _ _ hj
          have := (Array.getElem?_eq_some_iff.1 hu).1
          omega
      have hsh : c.w.shape? B = some (ty, cur.size) := by simp [World.shape?, h3]
      split at ha
      · rename_i t hs hd
        split at ha
        · rename_i j hj
          split at ha
          · rename_i hj0
            cases ha
            exact ⟨_, Lib.run_to_unsafe (w := c.w) ⟨B, k * sz + off, none⟩ hs hd hj hj0 hsh (by show k * sz + off < cur.size; omega), hxr⟩
          · cases ha
        · cases ha
      · rename_i u hs hd
        split at ha
        · rename_i hh
          obtain ⟨hi, hc, hl⟩ := hh
          obtain ⟨j, hj⟩ := Option.isSome_iff_exists.1 hi
          cases ha
          refine ⟨_, Lib.run_from_unsafe (w := c.w) ⟨B, k * sz + off, none⟩ hs hd hj hsh (liesAt_mono ?_ hl), hxr⟩
          rw [hc]
          have hz : 0 < sz := Nat.pos_of_ne_zero fun h => hlt (.inl (by rw [h, Nat.mul_zero]))
          exact (Nat.le_div_iff_mul_le hz).2 hsz
        · cases ha
      · cases ha
  · cases ha

/-! ### what an interface holds -/

def aAssert (P : Program) (x : AV) (xt t : TypeId) (ok : Bool) : Option AV :=
  match P.underlying t with
  | some (.interface _) => none
  | some _ => match x with
    | .ifc u y => if u = t then some (if ok then .tup [y, .v (.bool true)] else y) else (match ok, zeroAV P t with | true, some z => some (.tup [z, .v (.bool false)]) | _, _ => none)
    | .v .nilIface => (match ok, zeroAV P t with | true, some z => some (.tup [z, .v (.bool false)]) | _, _ => none)
    | _ => none
  | none => none
theorem assert_sound {P : Program} {c : Cx} {x r : AV} {xt t : TypeId} {ok : Bool} {u : Value} (ha : aAssert P x xt t ok = some r) (hx : Rel c x u) : ∃ y, (Instr.typeAssert u xt t ok).run P c.w = .ok y c.w ∧ Rel c r y := by
  unfold aAssert at ha
  split at ha
  · cases ha
  · rename_i d hnot hd
    have hun : (underlying t).run P c.w = .ok d c.w := by simp [underlying, hd]
    split at ha
    · rename_i u' y
      cases hx with
      | ifc _ _ v hv =>
        split at ha
        · rename_i he
          cases ha
          refine ⟨if ok then .tuple #[v, .bool true] else v, ?_, ?_⟩
          · unfold Instr.typeAssert
            simp only [Sem.run_bind, hun, Result.andThen_ok]
            cases d <;> first | (exact absurd rfl (hnot _)) | simp [he]
          · cases ok
            · exact hv
            · exact rel_tup2 hv (.v _)
        · rename_i he
          split at ha
          · rename_i z hz
            cases ha
            obtain ⟨zv, hrun, rfl⟩ := zeroAV_run hz
            refine ⟨.tuple #[zv, .bool false], ?_, rel_tup2 (rel_ofV c zv) (.v _)⟩
            unfold Instr.typeAssert
            simp only [Sem.run_bind, hun, Result.andThen_ok]
            cases d <;> first | (exact absurd rfl (hnot _)) | simp [he, hrun]
          · cases ha
    · cases hx
      split at ha
      · rename_i z hz
        cases ha
        obtain ⟨zv, hrun, rfl⟩ := zeroAV_run hz
        refine ⟨.tuple #[zv, .bool false], ?_, rel_tup2 (rel_ofV c zv) (.v _)⟩
        unfold Instr.typeAssert
        simp only [Sem.run_bind, hun, Result.andThen_ok]
        cases d <;> first | (exact absurd rfl (hnot _)) | simp [hrun]
      · cases ha
    · cases ha
  · cases ha

/-! ### a string is appended to a row of bytes -/

def byteAVs (s : ByteArray) : List AV := s.data.toList.map fun b => .v (.int .u8 (b.toNat : Nat))
theorem byteAVs_length (s : ByteArray) : (byteAVs s).length = s.size := by
  simp only [byteAVs, List.length_map, Array.length_toList]; rfl
theorem byteAVs_w (s : ByteArray) : ∀ x ∈ byteAVs s, x.cells.length = 1 := fun x hx => by
  obtain ⟨b, _, rfl⟩ := List.mem_map.1 hx
  rfl
theorem flat_byteAVs (s : ByteArray) : flat (byteAVs s) = byteAVs s := by
  unfold byteAVs
  generalize s.data.toList = l
  induction l with
  | nil => rfl
  | cons b l ih => simp only [List.map_cons, flat_cons, ih]; rfl
theorem strCells_rel (c : Cx) (s : ByteArray) : ∀ (j : Nat) a u, (flat (byteAVs s))[j]? = some a → (Lib.strCells s)[j]? = some u → Rel c a u := by
  intro j a u ha hu
  rw [flat_byteAVs] at ha
  simp only [byteAVs, Lib.strCells, List.getElem?_map, Option.map_eq_some_iff] at ha hu
  obtain ⟨b, hb, rfl⟩ := ha
  obtain ⟨b', hb', rfl⟩ := hu
  rw [hb] at hb'; cases hb'
  exact .v _

def aAppendS (P : Program) (t t' : TypeId) (s : AV) (str : ByteArray) (h : AH) : Option (AV × AH) :=
  match P.underlying t, P.underlying t' with
  | some (.slice e), some .string => match P.info? e with
    | some i => match i.zero with
      | some z => if i.size = 1 ∧ i.bytes = 1 ∧ z.cells.size = 1 then (match s with
        | .sl m xs (some b) => match h[b]? with
          | some (.grow e' n k) => if 0 < str.size ∧ m = 1 ∧ e' = e ∧ n = 1 ∧ k = xs.length ∧ xs.length + str.size ≤ 140737488355328 then some (.sl 1 (xs ++ byteAVs str) (some b), h.set b (.grow e 1 (xs.length + str.size))) else
              if str.size = 0 ∧ m = 1 ∧ n = 1 ∧ e' = e ∧ k = xs.length then some (.sl m xs (some b), h) else none
          | _ => none
        | _ => none) else none
      | none => none
    | none => none
  | _, _ => none

theorem run_append_string_nothing {P : Program} {w : World} {t t' ty e : TypeId} {i : TypeInfo} (ht : P.underlying t = some (.slice e)) (hu : P.underlying t' = some .string) (hi : P.info? e = some i) (b : Option Addr) (n cap : Nat) (hcap : n ≤ cap) (s : ByteArray) (h0 : s.size = 0) :
    (Builtin.append_ #[t, t'] ty #[.slice b n cap, .string s]).run P w = .ok (.slice b n cap) w := by
  have hf := Lib.run_firstCells_string (P := P) w i.size s
  rw [h0] at hf
  have hc : Lib.strCells s = [] := by rw [← List.length_eq_zero_iff, Lib.strCells_length, h0]
  rw [hc] at hf
  cases b <;> simp [Builtin.append_, run_underlying ht, run_underlying hu, sizeOf, typeInfo, hi, Builtin.lenOf, hcap, h0, hf, storeCells]
theorem run_append_nil_string {P : Program} (w : World) (t u ty e : TypeId) (i : TypeInfo) (z : Value) (ht : P.underlying t = some (.slice e)) (hu : P.underlying u = some .string) (hi : P.info? e = some i) (hz : i.zero = some z)
    (s : ByteArray) (hg : 0 < s.size) (h63 : (s.size : Int) ≤ 9223372036854775807) (hfit : Builtin.nextslicecap s.size 0 * i.bytes ≤ 281474976710656) :
    (Builtin.append_ #[t, u] ty #[.slice none 0 0, .string s]).run P w =
      .ok (.slice (some ⟨w.heap.size, 0, none⟩) s.size (grownCap w s.size 0 e))
        (w.drew.alloc (.cells ((Lib.strCells s).toArray ++ Builtin.zeroCells z.cells (grownCap w s.size 0 e - s.size)) e)) := by
  have h63' : ¬ (9223372036854775807 < (s.size : Int)) := by omega
  have h48' : ¬ (281474976710656 < Builtin.nextslicecap s.size 0 * i.bytes) := by omega
  have hne : s.size ≠ 0 := by omega
  have hf := Lib.run_firstCells_string (P := P) w.drew i.size s
  have hfo : (Builtin.firstCells i.size 0 (.slice none 0 0)).run P w.drew = .ok #[] w.drew := by simp [Builtin.firstCells]
  simp [Builtin.append_, run_underlying ht, run_underlying hu, sizeOf, typeInfo, zeroValue, hi, hz, Builtin.lenOf, hne, h63', h48', Question.forced, hf, hfo, newRow, grownCap]

/-- the row moves -/
theorem append_moves {P : Program} {c : Cx} (hst : St c) {b e k n cap' : Nat} {zs : List AV} {news : List Value} {rest : Array Value} {x : Sem Value} (hb : c.h[b]? = some (.grow e 1 k)) (hkn : k < n) (hn : zs.length = n)
    (hzs : ∀ y ∈ zs, y.cells.length = 1) (hnl : news.length = (flat zs).length) (hno : ∀ u ∈ news, u.oneCell' = true) (hnr : ∀ (j : Nat) a u, (flat zs)[j]? = some a → news[j]? = some u → Rel c a u)
    (hcap1 : n ≤ cap') (hcap2 : cap' ≤ maxLen) (hsz : (news.toArray ++ rest).size = cap' * 1)
    (hrun : x.run P c.w = .ok (.slice (some ⟨c.w.heap.size, 0, none⟩) n cap') (c.w.drew.alloc (.cells (news.toArray ++ rest) e))) :
    ∃ y c', x.run P c.w = .ok y c'.w ∧ Ev c c' ∧ St c' ∧ c'.h = c.h.set b (.grow e 1 n) ∧ Rel c' (.sl 1 zs (some b)) y := by
  let cells := news.toArray ++ rest
  have hg : Grows c.w (c.w.drew.alloc (.cells cells e)) := (Grows.drew c.w).trans (Grows.alloc _ _)
  have ho : ∀ B, some c.w.heap.size = some B → c.w.heap.size ≤ B := fun B h => by cases h; exact Nat.le_refl _
  have hev := Ev.move hst hg hb hkn ho
  have hρ : (c.move (c.w.drew.alloc (.cells cells e)) b (.grow e 1 n) (some c.w.heap.size)).ρ b = some c.w.heap.size := by simp [Cx.move]
  have hheap : (c.w.drew.alloc (.cells cells e)).heap[c.w.heap.size]? = some (.cells cells e (0, 0)) := heap_alloc_top c.w.drew _
  have hst' := St.move hst hg hb hkn ho (by
    intro B' hB'
    rw [hρ] at hB'; cases hB'
    exact ⟨cells, hheap, by rw [hsz]; exact Nat.mul_le_mul_right _ hcap1⟩)
  refine ⟨_, c.move (c.w.drew.alloc (.cells cells e)) b (.grow e 1 n) (some c.w.heap.size), hrun, hev, hst', rfl, ?_⟩
  subst hn
  refine rel_sl_tip hst' (by simp [Cx.move, lt_of_get hb]) hρ hheap hsz hcap1 hcap2 hzs ?_
  intro j a ha
  obtain ⟨u, hu2⟩ : ∃ u, news[j]? = some u := ⟨_, List.getElem?_eq_getElem (by rw [hnl]; exact lt_of_get ha)⟩
  refine ⟨u, ?_, hno u (List.mem_of_getElem? hu2), (hnr j a u ha hu2).ev hst hev⟩
  simp only [cells]
  rw [Array.getElem?_append_left (by simpa using lt_of_get hu2)]
  simpa using hu2

theorem appendS_sound {P : Program} {c : Cx} (hst : St c) {t t' ty : TypeId} {s r : AV} {str : ByteArray} {h' : AH} {us : Value} (ha : aAppendS P t t' s str c.h = some (r, h')) (hs : Rel c s us) :
    ∃ y c', (Builtin.append_ #[t, t'] ty #[us, .string str]).run P c.w = .ok y c'.w ∧ Ev c c' ∧ St c' ∧ c'.h = h' ∧ Rel c' r y := by
  unfold aAppendS at ha
  split at ha
  · rename_i e hu hu'
    split at ha
    · rename_i i hi
      split at ha
      · rename_i z hz
        split at ha
        · rename_i hh
          obtain ⟨hi1, hi2, hzc⟩ := hh
          split at ha
          · rename_i m xs b
            split at ha
            · rename_i e' n k hb
              split at ha
              · rename_i hh
                obtain ⟨h0, rfl, rfl, rfl, rfl, hmax⟩ := hh
                cases ha
                have hfl := flat_byteAVs str
                have hbl := byteAVs_length str
                have hw := byteAVs_w str
                have hsl := Lib.strCells_length str
                have h63 : ((xs.length + str.size : Nat) : Int) ≤ 9223372036854775807 := by omega
                have hmx : xs.length + str.size ≤ maxLen := by simp only [maxLen]; omega
                have hfit : ∀ cap0, cap0 < xs.length + str.size → Builtin.nextslicecap (xs.length + str.size) cap0 * i.bytes ≤ 281474976710656 := fun cap0 hc0 => growslice_fits hc0 (by rw [hi2]; omega)
                cases hs with
                | slnil _ _ ht =>
                  simp only [List.length_nil, Nat.zero_add, List.nil_append] at *
                  have hrun := run_append_nil_string (P := P) c.w t t' ty e' i z hu hu' hi hz str h0 (by omega) (hfit 0 h0)
                  exact append_moves hst hb h0 hbl hw (by rw [hfl, hbl, hsl]) (Lib.strCells_oneCell str) (strCells_rel c str) (grownCap_ge _ _ _ _) (grownCap_le_maxLen _ _ _ _ hmx)
                    (by have := grownCap_ge c.w str.size 0 e'; simp only [Array.size_append, List.size_toArray, hsl, size_zeros, hzc]; omega) hrun
                | slzero _ _ ba ht =>
                  simp only [List.length_nil, Nat.zero_add, List.nil_append] at *
                  have hrun := Lib.run_append_grow_string (P := P) c.w t t' ty e' i z hu hu' hi hz ba 0 0 [] (by simp) (fun j v hv => by simp at hv) str (by omega) (by simpa using h63) (by simpa using hfit 0 h0)
                  simp only [Nat.zero_add, Array.empty_append] at hrun
                  exact append_moves hst hb h0 hbl hw (by rw [hfl, hbl, hsl]) (Lib.strCells_oneCell str) (strCells_rel c str) (grownCap_ge _ _ _ _) (grownCap_le_maxLen _ _ _ _ hmx)
                    (by have := grownCap_ge c.w str.size 0 e'; simp only [Array.size_append, List.size_toArray, hsl, size_zeros, hzc]; omega) hrun
                | sl _ _ _ B0 o0 cap0 f hsu hcap0 hmax0 hc hr ht =>
                  obtain ⟨⟨htl, htd⟩, htn⟩ := ht b rfl
                  obtain ⟨_, _, h3⟩ := htn _ _ _ hb
                  obtain ⟨rfl, hρ0, _, _, cur, hB0, hcur⟩ := h3 rfl
                  have hxl := flat_length hsu
                  rw [Nat.mul_one] at hxl hcur
                  have hrow0 : Row c B0 0 xs := fun j a hj => ⟨f j, (hc j a hj).1.1, (hc j a hj).2, hr j a hj⟩
                  obtain ⟨olds, hol, hoc, hoo, hor⟩ := row_vals hrow0
                  have hall : ∀ x ∈ xs ++ byteAVs str, x.cells.length = 1 := fun x hx => (List.mem_append.1 hx).elim (hsu x) (hw x)
                  have hlenxy : (xs ++ byteAVs str).length = xs.length + str.size := by rw [List.length_append, hbl]
                  by_cases hroom : xs.length + str.size ≤ cap0
                  · have hrun := Lib.run_append_room_string (P := P) c.w t t' ty e' i hu hu' hi hi1 B0 xs.length cap0 cur hB0 str hroom (by omega)
                    let cur' := (cur.toList.take xs.length ++ Lib.strCells str ++ cur.toList.drop (xs.length + str.size)).toArray
                    have hheap : (c.w.setRow B0 cur').heap[B0]? = some (.cells cur' e' (0, 0)) := setRow_heap c.w B0 cur cur' e' (0, 0) hB0
                    have hsz : cur'.size = cap0 * 1 := by
                      rw [Nat.mul_one, ← hcur]; simp only [cur', List.size_toArray, List.length_append, List.length_take, List.length_drop, Array.length_toList, hsl]; omega
                    have htl' : (cur.toList.take xs.length).length = xs.length := by simp; omega
                    have hold : ∀ j, j < xs.length * 1 → cur'[j]? = cur[j]? := by
                      intro j hj
                      rw [Nat.mul_one] at hj
                      simp only [cur', List.getElem?_toArray]
                      rw [List.append_assoc, List.getElem?_append_left (by omega), List.getElem?_take_of_lt hj]; simp
                    have hev : Ev c (c.turn (c.w.setRow B0 cur') b (.grow e' 1 (xs.length + str.size))) :=
                      Ev.turn hst hb rfl hρ0 rfl rfl rfl (by simp [World.setRow]) (fun k hk => heap_setRow c.w B0 cur' k hk)
                        (.inr ⟨_, rfl, by omega, fun h => by omega, fun B' hB' => .inl hB', fun B' cur2 hB' hc2 => by
                          rw [hρ0] at hB'; cases hB'
                          rw [hB0] at hc2; cases hc2
                          exact ⟨cur', hheap, by rw [hsz, hcur, Nat.mul_one], hold⟩⟩)
                    have hst' := St.turn hst hb rfl hρ0 (fun k hk => heap_setRow c.w B0 cur' k hk) hev (by
                      intro B' hB'
                      simp only [Cx.turn] at hB'
                      rw [hρ0] at hB'; cases hB'
                      exact ⟨cur', hheap, by rw [hsz]; exact Nat.mul_le_mul_right _ hroom⟩)
                    refine ⟨_, c.turn (c.w.setRow B0 cur') b (.grow e' 1 (xs.length + str.size)), hrun, hev, hst', rfl, ?_⟩
                    suffices hrel : Rel (c.turn (c.w.setRow B0 cur') b (.grow e' 1 (xs.length + str.size))) (.sl 1 (xs ++ byteAVs str) (some b)) (.slice (some ⟨B0, 0, none⟩) (xs ++ byteAVs str).length cap0) by
                      rw [hlenxy] at hrel; exact hrel
                    refine rel_sl_tip hst' (by simp [Cx.turn, htl, hlenxy]) hρ0 hheap hsz (by omega) hmax0 hall ?_
                    intro j a hj
                    rw [flat_append] at hj
                    by_cases hj2 : j < xs.length
                    · rw [List.getElem?_append_left (by omega)] at hj
                      obtain ⟨u, h4, h5, h6⟩ := hrow0 j a hj
                      rw [Nat.zero_add, cell_cells hB0] at h4
                      exact ⟨u, (hold j (by omega)).trans h4, h5, h6.ev hst hev⟩
                    · rw [List.getElem?_append_right (by omega), hxl] at hj
                      obtain ⟨u, hu2⟩ : ∃ u, (Lib.strCells str)[j - xs.length]? = some u := ⟨_, List.getElem?_eq_getElem (by have := lt_of_get hj; rw [hfl, hbl] at this; rw [hsl]; exact this)⟩
                      refine ⟨u, ?_, Lib.strCells_oneCell str u (List.mem_of_getElem? hu2), (strCells_rel c str _ a u hj hu2).ev hst hev⟩
                      simp only [cur', List.getElem?_toArray]
                      rw [List.append_assoc, List.getElem?_append_right (by omega), htl', List.getElem?_append_left (lt_of_get hu2)]
                      exact hu2
                  · have hrun := Lib.run_append_grow_string (P := P) c.w t t' ty e' i z hu hu' hi hz ⟨B0, 0, none⟩ xs.length cap0 olds (by rw [hol, hxl, hi1, Nat.mul_one]) (fun j v hv => by rw [addr_add]; exact hoc j v hv) str (by omega) h63 (hfit cap0 (by omega))
                    have := append_moves (P := P) (cap' := grownCap c.w (xs.length + str.size) cap0 e') (news := olds ++ Lib.strCells str) (rest := Builtin.zeroCells z.cells (grownCap c.w (xs.length + str.size) cap0 e' - (xs.length + str.size))) (x := Builtin.append_ #[t, t'] ty #[.slice (some ⟨B0, 0, none⟩) xs.length cap0, .string str])
                      hst hb (by omega : xs.length < xs.length + str.size) hlenxy hall (by rw [flat_append, List.length_append, List.length_append, hol, hfl, hbl, hsl]) (fun u hu2 => (List.mem_append.1 hu2).elim (hoo u) (Lib.strCells_oneCell str u)) ?_ (grownCap_ge _ _ _ _) (grownCap_le_maxLen _ _ _ _ hmx) ?_ ?_
                    · exact this
                    · intro j a u hj hu2
                      rw [flat_append] at hj
                      by_cases hj2 : j < xs.length
                      · rw [List.getElem?_append_left (by omega)] at hj hu2
                        exact hor j a u hj hu2
                      · rw [List.getElem?_append_right (by omega)] at hj hu2
                        rw [hxl] at hj
                        rw [hol, hxl] at hu2
                        exact strCells_rel c str _ a u hj hu2
                    · have := grownCap_ge c.w (xs.length + str.size) cap0 e'
                      simp only [Array.size_append, List.size_toArray, List.length_append, hol, hxl, hsl, size_zeros, hzc]; omega
                    · rw [hrun]
                      congr 3
                      apply Array.ext'
                      simp
              · split at ha
                · rename_i hh
                  obtain ⟨h0, rfl, rfl, rfl, rfl⟩ := hh
                  cases ha
                  have hs' := hs
                  cases hs with
                  | slnil _ _ ht => exact ⟨_, c, run_append_string_nothing hu hu' hi none 0 0 (Nat.le_refl _) str h0, Ev.refl c, hst, rfl, hs'⟩
                  | slzero _ _ ba ht => exact ⟨_, c, run_append_string_nothing hu hu' hi (some ba) 0 0 (Nat.le_refl _) str h0, Ev.refl c, hst, rfl, hs'⟩
                  | sl _ _ _ B0 o0 cap0 f hsu hcap0 hmax0 hc hr ht => exact ⟨_, c, run_append_string_nothing hu hu' hi _ _ _ hcap0 str h0, Ev.refl c, hst, rfl, hs'⟩
                · cases ha
            · cases ha
          · cases ha
        · cases ha
      · cases ha
    · cases ha
  · cases ha

/-! ### the bytes of a row as a string, without a copy -/

def bytesAV (l : List UInt8) : List AV := l.map fun b => .v (.int .u8 (b.toNat : Nat))
theorem byteAVs_eq (s : ByteArray) : byteAVs s = bytesAV s.data.toList := rfl
def unbytes : List AV → Option (List UInt8)
  | [] => some []
  | .v (.int .u8 n) :: r => if 0 ≤ n ∧ n < 256 then (unbytes r).map (UInt8.ofNat n.toNat :: ·) else none
  | _ => none
theorem unbytes_eq : ∀ {xs : List AV} {l : List UInt8}, unbytes xs = some l → xs = bytesAV l
  | [], l, h => by simp only [unbytes, Option.some.injEq] at h; subst h; rfl
  | a :: r, l, h => by
    unfold unbytes at h
    split at h
    · rename_i h0; cases h0
    · rename_i n r' h0
      cases h0
      split at h
      · rename_i hn
        simp only [Option.map_eq_some_iff] at h
        obtain ⟨m, h1, rfl⟩ := h
        rw [unbytes_eq h1]
        show _ = AV.v (.int .u8 ((UInt8.ofNat n.toNat).toNat : Nat)) :: bytesAV m
        have : ((UInt8.ofNat n.toNat).toNat : Int) = n := by rw [UInt8.toNat_ofNat']; omega
        rw [this]
      · cases h
    · cases h
theorem unbytes_bytes : ∀ l : List UInt8, unbytes (bytesAV l) = some l
  | [] => rfl
  | b :: l => by
    show unbytes (AV.v (.int .u8 ((b.toNat : Nat) : Int)) :: bytesAV l) = _
    have hb := b.toNat_lt
    rw [unbytes, if_pos (by omega), unbytes_bytes l, Int.toNat_natCast]
    simp

def aSliceData (x : AV) : Option AV :=
  match x with
  | .sl s (y :: ys) own => some (.spt s (y :: ys) own)
  | .v (.slice none 0 0) => some (.v (.pointer none))
  | _ => none
theorem sliceData_sound {P : Program} {c : Cx} {ts : Array TypeId} {ty : TypeId} {x r : AV} {u : Value} (ha : aSliceData x = some r) (hx : Rel c x u) : ∃ y, (Builtin.unsafeSliceData_ ts ty #[u]).run P c.w = .ok y c.w ∧ Rel c r y := by
  unfold aSliceData at ha
  split at ha
  · rename_i s y ys own
    cases ha
    have hx' := hx
    cases hx with
    | sl _ _ _ B o cap f hsu hcap hmax hc hr ht =>
      exact ⟨_, Lib.run_unsafeSliceData_row c.w ts ty _ _ cap (by simp at hcap; omega), .spt _ _ _ _ _ _ hx'⟩
  · cases ha
    cases hx
    exact ⟨_, Lib.run_unsafeSliceData_nil c.w ts ty 0 0, .v _⟩
  · cases ha

def aUnsafeString (P : Program) (pt : TypeId) (x n : AV) (h : AH) : Option (AV × AH) :=
  match x, n with
  | .spt s xs (some b), .v (.int .i64 n) => match h[b]?, unbytes xs, P.underlying pt with
    | some (.grow e s' k), some l, some (.pointer e') => if s = 1 ∧ s' = 1 ∧ k = xs.length ∧ 0 < xs.length ∧ n = xs.length ∧ e' = e ∧ P.cellsOf e = 1 ∧ xs.length ≤ 9223372036854775807 then some (.v (.string ⟨l.toArray⟩), h.set b .gone) else none
    | _, _, _ => none
  | .v (.pointer none), .v (.int .i64 n) => if n = 0 then some (.v (.string .empty), h) else none
  | _, _ => none

theorem freeze_other (w : World) (p : Addr) (n k : Nat) (h : k ≠ p.block) : (w.freeze p n).heap[k]? = w.heap[k]? := by
  unfold World.freeze
  split
  · rfl
  · simp only [Array.getElem?_modify]
    rw [if_neg (fun e => h e.symm)]
theorem freeze_here (w : World) (p : Addr) (n : Nat) {cur : Array Value} {e : TypeId} {fr : Nat × Nat} (h : w.heap[p.block]? = some (.cells cur e fr)) : ∃ fr', (w.freeze p n).heap[p.block]? = some (.cells cur e fr') := by
  unfold World.freeze
  split
  · exact ⟨fr, h⟩
  · simp only [Array.getElem?_modify, if_true, h, Option.map_some]
    exact ⟨_, rfl⟩

theorem unsafeString_sound {P : Program} {c : Cx} (hst : St c) {pt it ty : TypeId} {x n r : AV} {h' : AH} {u v : Value} (ha : aUnsafeString P pt x n c.h = some (r, h')) (hx : Rel c x u) (hn : Rel c n v) :
    ∃ y c', (Builtin.unsafeString_ #[pt, it] ty #[u, v]).run P c.w = .ok y c'.w ∧ Ev c c' ∧ St c' ∧ c'.h = h' ∧ Rel c' r y := by
  unfold aUnsafeString at ha
  split at ha
  · rename_i s xs b n
    cases hn
    split at ha
    · rename_i e s' k l e' hb hl hpt
      split at ha
      · rename_i hh
        obtain ⟨rfl, rfl, rfl, h0, rfl, rfl, hc1, h63⟩ := hh
        cases ha
        cases hx with
        | spt _ _ _ p nn kk hsl =>
          cases hsl with
          | slnil => simp at h0
          | slzero => simp at h0
          | sl _ _ _ B o cap f hsu hcap hmax hc hr ht =>
            obtain ⟨⟨htl, htd⟩, htn⟩ := ht b rfl
            obtain ⟨_, _, h3⟩ := htn _ _ _ hb
            obtain ⟨rfl, hρ, _, _, cur, hB, hcur⟩ := h3 rfl
            have hxl := unbytes_eq hl
            have hll : l.length = xs.length := by rw [hxl]; simp [bytesAV]
            have hfl : flat xs = bytesAV l := by
              rw [hxl]
              clear hl hxl hll hr hc hsu h0 hb hcap ht htn h3 h63
              induction l with
              | nil => rfl
              | cons b l ih =>
                show flat (AV.v (.int .u8 ((b.toNat : Nat) : Int)) :: bytesAV l) = _
                rw [flat_cons, ih]; rfl
            have hrun := Lib.run_unsafeString_row (P := P) c.w pt it ty e' hpt hc1 B cur.size (by simp [World.shape?, hB]) l (by intro hnil; rw [hnil] at hll; simp at hll; omega) (by omega) (by omega) (fun j x hj => by
              have hj2 : (flat xs)[j]? = some (AV.v (.int .u8 ((x.toNat : Nat) : Int))) := by rw [hfl]; simp only [bytesAV, List.getElem?_map, hj, Option.map_some]
              obtain ⟨h4, _⟩ := hc j _ hj2
              have h5 := hr j _ hj2
              have h6 : f j = .int .u8 ((x.toNat : Nat) : Int) := by
                generalize f j = u at h5
                cases h5; rfl
              rw [addr_add, h4.1, h6])
            rw [hll] at hrun
            have hold : ∀ k, k ≠ B → (c.w.freeze ⟨B, 0, none⟩ xs.length).heap[k]? = c.w.heap[k]? := fun k hk => freeze_other c.w ⟨B, 0, none⟩ _ k hk
            obtain ⟨fr', hnew⟩ := freeze_here c.w ⟨B, 0, none⟩ xs.length hB
            have hsz : (c.w.freeze ⟨B, 0, none⟩ xs.length).heap.size = c.w.heap.size := by unfold World.freeze; split <;> simp
            have hos : (c.w.freeze ⟨B, 0, none⟩ xs.length).os = c.w.os ∧ (c.w.freeze ⟨B, 0, none⟩ xs.length).tape = c.w.tape ∧ (c.w.freeze ⟨B, 0, none⟩ xs.length).output = c.w.output := by unfold World.freeze; split <;> exact ⟨rfl, rfl, rfl⟩
            have hev : Ev c (c.turn (c.w.freeze ⟨B, 0, none⟩ xs.length) b .gone) :=
              Ev.turn hst hb rfl hρ hos.1 hos.2.1 hos.2.2 hsz hold (.inl ⟨rfl, fun B' cur' h5 h6 => by
                rw [hρ] at h5; cases h5
                rw [hB] at h6; cases h6
                exact ⟨cur, fr', hnew, fun _ _ => rfl⟩⟩)
            exact ⟨_, c.turn (c.w.freeze ⟨B, 0, none⟩ xs.length) b .gone, hrun, hev, St.turn hst hb rfl hρ hold hev trivial, rfl, .v _⟩
      · cases ha
    · cases ha
  · rename_i n
    cases hx; cases hn
    split at ha
    · rename_i hz
      subst hz
      cases ha
      exact ⟨_, c, Lib.run_unsafeString_none c.w pt it ty none, Ev.refl c, hst, rfl, .v _⟩
    · cases ha
  · cases ha
end Go.Proofs.YthkiabcdkhpheaaDoor.Ab

/-
  The abstract program logic: map updates; the operations together; regions in the order of the text; functions.
-/
set_option linter.unusedVariables false
namespace Go.Proofs.YthkiabcdkhpheaaDoor.Ab

def aMapUpdate (P : Program) (t : TypeId) (x k v : AV) (h : AH) : Option AH :=
  match mapInfo P t with
  | some (d, _) =>
    match x, k with
    | .mp id, .v kv => match h[id]? with
      | some (.map es) => match updA d kv v es with
        | some es' => some (h.set id (.map es'))
        | none => none
      | _ => none
    | _, _ => none
  | none => none

theorem run_setObj_map {P : Program} {w : World} {r : Nat} {es : Array MapEntry} {k : Nat} {o : Obj} (h : w.heap[r]? = some (.map es k)) : (setObj r o).run P w = .ok () { w with heap := w.heap.setIfInBounds r o } := by
  simp [setObj, Sem.run, h]

theorem mapUpdate_sound {P : Program} {c : Cx} (hst : St c) {t : TypeId} {x k v : AV} {h' : AH} {ux uk uv : Value} (ha : aMapUpdate P t x k v c.h = some h') (hx : Rel c x ux) (hk : Rel c k uk) (hv : Rel c v uv) :
    ∃ c', (Instr.mapUpdate t ux uk uv).run P c.w = .ok () c'.w ∧ Ev c c' ∧ St c' ∧ c'.h = h' := by
  unfold aMapUpdate at ha
  cases hm : mapInfo P t with
  | none => simp [hm] at ha
  | some de =>
    obtain ⟨d, e⟩ := de
    obtain ⟨kt, hu, hkt, hd⟩ := mapInfo_spec hm
    simp only [hm] at ha
    split at ha
    · rename_i id kv
      cases hk
      split at ha
      · rename_i es hb
        split at ha
        · rename_i es' hup
          cases ha
          cases hx with
          | mp _ x hid ho h1 =>
            obtain ⟨B, hρ, rfl⟩ := h1.1 _ hb
            obtain ⟨B', ents, clock, h2, h3, h4, h5⟩ := hst.blocks id _ hb
            rw [hρ] at h2; cases h2
            have hlt : B < c.w.heap.size := (Array.getElem?_eq_some_iff.1 h3).1
            have hrm : RelM c es ents.toList := ⟨by simpa using h4, fun j kv e h6 h7 => h5 j kv e h6 (by simpa using h7)⟩
            -- whatever the new entries are
            have fin : ∀ (ents' : Array MapEntry) (clock' : Nat), RelM c es' ents'.toList → ∃ c', ({ c.w with heap := c.w.heap.setIfInBounds B (.map ents' clock') } : World) = c'.w ∧ Ev c c' ∧ St c' ∧ c'.h = c.h.set id (.map es') := by
              intro ents' clock' hr'
              let w' : World := { c.w with heap := c.w.heap.setIfInBounds B (.map ents' clock') }
              have hold : ∀ k, k ≠ B → w'.heap[k]? = c.w.heap[k]? := fun k hk => by simp only [w']; rw [Array.getElem?_setIfInBounds_ne (fun e => hk e.symm)]
              have hnew : w'.heap[B]? = some (.map ents' clock') := by simp only [w']; rw [Array.getElem?_setIfInBounds_self_of_lt hlt]
              have hev : Ev c (c.turn w' id (.map es')) := Ev.turn hst hb rfl hρ rfl rfl rfl (by simp [w']) hold ⟨_, rfl, rfl⟩
              refine ⟨c.turn w' id (.map es'), rfl, hev, St.turn hst hb rfl hρ hold hev ?_, rfl⟩
              refine ⟨B, ents', clock', hρ, hnew, by simpa using hr'.1, fun j kv e h6 h7 => ?_⟩
              obtain ⟨h8, h9⟩ := hr'.2 j kv e h6 (by simpa using h7)
              exact ⟨h8, h9.ev hst hev⟩
            rcases upd_sound hv clock 0 hrm hup with ⟨hf, hr⟩ | ⟨j, v0, e0, hf, he0, hs, hr⟩
            · obtain ⟨c', h6, h7⟩ := fin (ents.push { key := uk, val := uv, born := clock }) (clock + 1) (by simpa using hr)
              refine ⟨c', ?_, h7⟩
              rw [← h6]
              simp [Instr.mapUpdate, underlying, hu, run_getObj_map h3, checkKey_run hkt hd, Instr.findKey, hkt, hf, run_setObj_map h3]
            · obtain ⟨c', h6, h7⟩ := fin (ents.modify j fun e => { e with key := uk, val := uv }) clock (by simpa using hr)
              refine ⟨c', ?_, h7⟩
              rw [← h6]
              have he0' : ents[j]? = some e0 := by simpa using he0
              have hbits : Instr.sameBits 10000 e0.key uk = true := sameNow_bits hs
              rw [Nat.zero_add] at hf
              simp [Instr.mapUpdate, underlying, hu, run_getObj_map h3, checkKey_run hkt hd, Instr.findKey, hkt, hf, he0', Instr.keyThatStays, hbits, run_setObj_map h3]
        · cases ha
      · cases ha
    · cases ha

theorem makeMap_sound {P : Program} {c : Cx} (hst : St c) (t : TypeId) (r : Option Value) (hr : ∀ v, r = some v → (∃ k e, P.underlying t = some (.map k e)) ∧ ∃ q n, v = .int q n) :
    ∃ c', (Instr.makeMap t r).run P c.w = .ok (.map (some c.w.heap.size)) c'.w ∧ Ev c c' ∧ St c' ∧ c'.h = c.h ++ [.map []] ∧ Rel c' (.mp c.h.length) (.map (some c.w.heap.size)) := by
  have hg : Grows c.w (c.w.alloc (.map #[] 0)) := Grows.alloc _ _
  have ho : ∀ B, some c.w.heap.size = some B → c.w.heap.size ≤ B := fun B h => by cases h; exact Nat.le_refl _
  have hev := Ev.add hst hg (.map []) (some c.w.heap.size) ho
  have hρ : (c.add (c.w.alloc (.map #[] 0)) (.map []) (some c.w.heap.size)).ρ c.h.length = some c.w.heap.size := by simp [Cx.add]
  refine ⟨c.add (c.w.alloc (.map #[] 0)) (.map []) (some c.w.heap.size), ?_, hev, St.add hst hg _ _ ho ?_, rfl, .mp _ _ (by simp [Cx.add]) rfl ⟨fun es _ => ⟨_, hρ, rfl⟩, fun i hi => by simp [Cx.add] at hi, fun s p hi => by simp [Cx.add] at hi⟩⟩
  · cases r with
    | none => rfl
    | some v =>
      obtain ⟨⟨k, e, hu⟩, q, n, rfl⟩ := hr v rfl
      simp [Instr.makeMap, underlying, hu, asInt, asIntOf, Cx.add]
  · exact ⟨_, #[], 0, hρ, heap_alloc_top _ _, rfl, fun j kv e h => by simp at h⟩

/-! ### ranges over strings -/

theorem run_getObj_iter {P : Program} {w : World} {r : Nat} {s : ByteArray} {p : Nat} (h : w.heap[r]? = some (.stringIter s p)) : (getObj r).run P w = .ok (.stringIter s p) w := by
  simp [getObj, Sem.run, h]
theorem run_setObj_iter {P : Program} {w : World} {r : Nat} {s : ByteArray} {p : Nat} {o : Obj} (h : w.heap[r]? = some (.stringIter s p)) : (setObj r o).run P w = .ok () { w with heap := w.heap.setIfInBounds r o } := by
  simp [setObj, Sem.run, h]

theorem range_sound {P : Program} {c : Cx} (hst : St c) {t : TypeId} (ht : P.underlying t = some .string) (s : ByteArray) :
    ∃ c', (Instr.range t (.string s)).run P c.w = .ok (.pointer (some ⟨c.w.heap.size, 0, none⟩)) c'.w ∧ Ev c c' ∧ St c' ∧ c'.h = c.h ++ [.iter s 0] ∧ Rel c' (.mp c.h.length) (.pointer (some ⟨c.w.heap.size, 0, none⟩)) := by
  have hg : Grows c.w (c.w.alloc (.stringIter s 0)) := Grows.alloc _ _
  have ho : ∀ B, some c.w.heap.size = some B → c.w.heap.size ≤ B := fun B h => by cases h; exact Nat.le_refl _
  have hev := Ev.add hst hg (.iter s 0) (some c.w.heap.size) ho
  have hρ : (c.add (c.w.alloc (.stringIter s 0)) (.iter s 0) (some c.w.heap.size)).ρ c.h.length = some c.w.heap.size := by simp [Cx.add]
  refine ⟨c.add (c.w.alloc (.stringIter s 0)) (.iter s 0) (some c.w.heap.size), ?_, hev, St.add hst hg _ _ ho ?_, rfl, .mp _ _ (by simp [Cx.add]) rfl ⟨fun es hi => by simp [Cx.add] at hi, fun i hi => by simp [Cx.add] at hi, fun s' p' _ => ⟨_, hρ, rfl⟩⟩⟩
  · simp [Instr.range, underlying, ht, Cx.add]
  · exact ⟨_, hρ, heap_alloc_top _ _⟩

def aNext (x : AV) (h : AH) : Option (AV × AH) :=
  match x with
  | .mp id => match h[id]? with
    | some (.iter s p) => if p < s.size then some (.tup [.v (.bool true), .v (goInt p), .v (.int .i32 (Utf8.decode s p).1)], h.set id (.iter s (p + (Utf8.decode s p).2))) else some (.tup [.v (.bool false)], h)
    | _ => none
  | _ => none

theorem rel_tup1 {c : Cx} {a : AV} {u : Value} (h1 : Rel c a u) : Rel c (.tup [a]) (.tuple #[u]) := by
  refine .tup _ _ rfl fun j x y hx hy => ?_
  match j, hx, hy with
  | 0, hx, hy => simp at hx hy; subst hx; subst hy; exact h1
  | j + 1, hx, hy => simp at hx
theorem rel_tup3 {c : Cx} {a b d : AV} {u v z : Value} (h1 : Rel c a u) (h2 : Rel c b v) (h3 : Rel c d z) : Rel c (.tup [a, b, d]) (.tuple #[u, v, z]) := by
  refine .tup _ _ rfl fun j x y hx hy => ?_
  match j, hx, hy with
  | 0, hx, hy => simp at hx hy; subst hx; subst hy; exact h1
  | 1, hx, hy => simp at hx hy; subst hx; subst hy; exact h2
  | 2, hx, hy => simp at hx hy; subst hx; subst hy; exact h3
  | j + 3, hx, hy => simp at hx

theorem next_sound {P : Program} {c : Cx} (hst : St c) {x r : AV} {h' : AH} {u : Value} (ha : aNext x c.h = some (r, h')) (hx : Rel c x u) (ty : TypeId) :
    ∃ y c', (Instr.next u true ty).run P c.w = .ok y c'.w ∧ Ev c c' ∧ St c' ∧ c'.h = h' ∧ Rel c' r y := by
  unfold aNext at ha
  split at ha
  · rename_i id
    split at ha
    · rename_i s p hb
      cases hx with
      | mp _ x hid ho h1 =>
        obtain ⟨B, hρ, rfl⟩ := h1.2.2 _ _ hb
        obtain ⟨B', h2, h3⟩ := hst.blocks id _ hb
        rw [hρ] at h2; cases h2
        have hlt : B < c.w.heap.size := (Array.getElem?_eq_some_iff.1 h3).1
        split at ha
        · rename_i hp
          cases ha
          let w' : World := { c.w with heap := c.w.heap.setIfInBounds B (.stringIter s (p + (Utf8.decode s p).2)) }
          have hold : ∀ k, k ≠ B → w'.heap[k]? = c.w.heap[k]? := fun k hk => by simp only [w']; rw [Array.getElem?_setIfInBounds_ne (fun e => hk e.symm)]
          have hnew : w'.heap[B]? = some (.stringIter s (p + (Utf8.decode s p).2)) := by simp only [w']; rw [Array.getElem?_setIfInBounds_self_of_lt hlt]
          have hev : Ev c (c.turn w' id (.iter s (p + (Utf8.decode s p).2))) := Ev.turn hst hb rfl hρ rfl rfl rfl (by simp [w']) hold ⟨_, rfl, rfl⟩
          refine ⟨_, c.turn w' id (.iter s (p + (Utf8.decode s p).2)), ?_, hev, St.turn hst hb rfl hρ hold hev ⟨B, hρ, hnew⟩, rfl, rel_tup3 (.v _) (.v _) (.v _)⟩
          simp [Instr.next, run_getObj_iter h3, hp, run_setObj_iter h3, Cx.turn, w']
        · rename_i hp
          cases ha
          refine ⟨_, c, ?_, Ev.refl c, hst, rfl, rel_tup1 (.v _)⟩
          simp [Instr.next, run_getObj_iter h3, hp]
    · cases ha
  · cases ha

/-! ### a row of bytes as a string -/

def intsOf : List AV → Option (List Int)
  | [] => some []
  | .v (.int .u8 n) :: l => (intsOf l).map (n :: ·)
  | _ => none
theorem intsOf_eq : ∀ {l : List AV} {ns : List Int}, intsOf l = some ns → l = ns.map fun n => .v (.int .u8 n)
  | [], ns, h => by simp only [intsOf, Option.some.injEq] at h; subst h; rfl
  | a :: l, ns, h => by
    unfold intsOf at h
    split at h
    · rename_i h0; cases h0
    · rename_i n l' h0
      cases h0
      simp only [Option.map_eq_some_iff] at h
      obtain ⟨ms, h1, rfl⟩ := h
      rw [intsOf_eq h1]; rfl
    · cases h
theorem intsOf_map : ∀ ns : List Int, intsOf (ns.map fun n => AV.v (.int .u8 n)) = some ns
  | [] => rfl
  | n :: ns => by simp only [List.map_cons, intsOf, intsOf_map ns, Option.map_some]
def bytesTo (P : Program) (s d : TypeId) : Bool := match P.underlying s, P.underlying d with
  | some (.slice e), some .string => (match P.underlying e with | some (.int .u8) => true | _ => false)
  | _, _ => false
def aBytes (P : Program) (s d : TypeId) (x : AV) (h : AH) : Option AV := match bytesTo P s d, srcOf 1 h x with
  | true, some ys => (intsOf ys).map fun ns => .v (.string (strOfNums ns))
  | _, _ => none

theorem bytes_sound {P : Program} {c : Cx} (hst : St c) {s d : TypeId} {x r : AV} {u : Value} (ha : aBytes P s d x c.h = some r) (hx : Rel c x u) : ∃ y, (convert s d u).run P c.w = .ok y c.w ∧ Rel c r y := by
  unfold aBytes at ha
  split at ha
  · rename_i ys hb hys
    simp only [Option.map_eq_some_iff] at ha
    obtain ⟨ns, hns, rfl⟩ := ha
    have hyl := intsOf_eq hns
    unfold bytesTo at hb
    split at hb
    · rename_i e hs hd
      split at hb
      · rename_i he
        obtain ⟨_, h1 | ⟨B, o, cap, rfl, hrow, _, _⟩⟩ := src_sound hst hys hx
        · obtain ⟨hu, hnil⟩ := h1
          have hn0 : ns = [] := by rw [hnil] at hns; simpa [intsOf] using hns.symm
          subst hn0
          rcases hu with rfl | ⟨ad, rfl⟩
          · exact ⟨_, run_convert_bytes_nil c.w s e hs he 0 0 d hd, .v _⟩
          · refine ⟨.string (strOfNums []), ?_, .v _⟩
            rw [run_convert_bytes_string c.w s d e _ 0 0 hs he hd, run_bytesToString c.w ad 0 0 [] (by rfl)]
            rfl
        · have hlen : ys.length = ns.length := by rw [hyl, List.length_map]
          have hfl : flat ys = ns.map fun n => AV.v (.int .u8 n) := by
            rw [hyl]
            clear hyl hns hys hrow hx hlen
            induction ns with
            | nil => rfl
            | cons n ns ih => simp only [List.map_cons, flat_cons, ih]; rfl
          refine ⟨_, run_convert_bytes_arg c.w s e hs he B o ys.length cap ns hlen.symm (fun i hi => ?_) d hd, .v _⟩
          have hin : i < ns.length := by omega
          obtain ⟨v, h1, _, h3⟩ := hrow i (.v (.int .u8 ns[i])) (by rw [hfl, List.getElem?_map, List.getElem?_eq_getElem hin]; rfl)
          cases h3
          rw [h1, List.getD_eq_getElem?_getD, List.getElem?_eq_getElem hin]; rfl
      · cases hb
    · cases hb
  · cases ha

/-! ### make of a row of zeros -/

def aMakeN (P : Program) (t : TypeId) (l c : AV) (h : AH) : Option (AV × AH) :=
  match l, c with
  | .v (.int _ m), .v (.int _ n) => match elemInfo P t with
    | some (e, k) => match P.info? e with
      | some i => match i.zero with
        | some z => if 0 < m ∧ m = n ∧ (i.bytes : Int) * n ≤ 281474976710656 ∧ n ≤ maxLen ∧ i.size = 1 ∧ k = 1 ∧ z.oneCell' = true then some (.arr h.length 0 m.toNat, h ++ [.cells e 1 (List.replicate m.toNat (.v z))]) else none
        | none => none
      | none => none
    | none => none
  | _, _ => none
theorem one_cells {z : Value} (h : z.oneCell' = true) : z.cells = #[z] := by
  cases z <;> first | rfl | cases h
theorem flat_replicate (z : Value) : ∀ n : Nat, flat (List.replicate n (AV.v z)) = List.replicate n (AV.v z)
  | 0 => rfl
  | n + 1 => by rw [List.replicate_succ, flat_cons, flat_replicate z n]; rfl

theorem makeN_sound {P : Program} {c : Cx} (hst : St c) {t : TypeId} {l n r : AV} {h' : AH} {ul un : Value} (ha : aMakeN P t l n c.h = some (r, h')) (hl : Rel c l ul) (hn : Rel c n un) :
    ∃ y c', (Instr.makeSlice t ul un).run P c.w = .ok y c'.w ∧ Ev c c' ∧ St c' ∧ c'.h = h' ∧ Rel c' r y := by
  unfold aMakeN at ha
  split at ha
  · rename_i q1 m q2 n
    cases hl; cases hn
    split at ha
    · rename_i e k he
      obtain ⟨hu, hsz⟩ := elemInfo_run he
      split at ha
      · rename_i i hi
        split at ha
        · rename_i z hz
          split at ha
          · rename_i hh
            obtain ⟨h0, rfl, hb, hm, h1, rfl, hz1⟩ := hh
            cases ha
            have h63 : m ≤ 9223372036854775807 := by simp only [maxLen] at hm; omega
            have hrun := run_make (P := P) c.w t e i z hu hi hz q1 q2 m m (by omega) (Int.le_refl _) hb h63
            rw [h1, Nat.mul_one, one_cells hz1] at hrun
            have hg : Grows c.w (c.w.alloc (.cells (madeCells #[z] m.toNat) e)) := Grows.alloc _ _
            have ho : ∀ B, some c.w.heap.size = some B → c.w.heap.size ≤ B := fun B h => by cases h; exact Nat.le_refl _
            have hev := Ev.add hst hg (.cells e 1 (List.replicate m.toNat (.v z))) (some c.w.heap.size) ho
            have hρ : (c.add (c.w.alloc (.cells (madeCells #[z] m.toNat) e)) (.cells e 1 (List.replicate m.toNat (.v z))) (some c.w.heap.size)).ρ c.h.length = some c.w.heap.size := by simp [Cx.add]
            have hheap : (c.w.alloc (.cells (madeCells #[z] m.toNat) e)).heap[c.w.heap.size]? = some (.cells (madeCells #[z] m.toNat) e (0, 0)) := heap_alloc_top c.w _
            have hst' := St.add hst hg (.cells e 1 (List.replicate m.toNat (.v z))) (some c.w.heap.size) ho ⟨_, _, hρ, hheap, fun x hx => by rw [List.eq_of_mem_replicate hx]; rfl, fun j a ha => by
              rw [flat_replicate] at ha
              have hlt := lt_of_get ha
              rw [List.length_replicate] at hlt
              have e1 : a = .v z := List.eq_of_mem_replicate (List.mem_of_getElem? ha)
              subst e1
              refine ⟨z, ?_, hz1, .v z⟩
              rw [← Array.getElem?_toList, toList_madeCells_one, List.getElem?_replicate, if_pos hlt]⟩
            refine ⟨_, _, hrun, hev, hst', rfl, .arr _ _ _ _ (by simp [Cx.add]) rfl fun ty s xs hg2 => ?_⟩
            simp [Cx.add] at hg2
            obtain ⟨rfl, rfl, rfl⟩ := hg2
            refine ⟨_, m.toNat, hρ, by simp, Nat.le_refl _, by simp only [maxLen] at hm ⊢; omega, _, hheap, by rw [size_madeCells]; omega⟩
          · cases ha
        · cases ha
      · cases ha
    · cases ha
  · cases ha

/-! ### the operations together -/

def tyIsMap (P : Program) (t : TypeId) : Bool := match P.underlying t with | some (.map _ _) => true | _ => false

/-- all operations but calls of functions -/
def aop (P : Program) (ev : Operand → AV) (ty : TypeId) (h : AH) : Op → Option (AV × AH)
  | .move x | .assign x => some (ev x, h)
  | .pick c a b => match ev c with
    | .v (.bool t) => some (if t then ev a else ev b, h)
    | _ => none
  | .alloc t => match zeroAV P t with
    | some z => if z.cells1 = true then some (.ptr h.length 0 0, h ++ [.cells t z.cells.length [z]]) else none
    | none => none
  | .box t x => if (ev x).cells1 = true then some (.ptr h.length 0 0, h ++ [.cells t (ev x).cells.length [ev x]]) else none
  | .build t parts => (aBuild P t (parts.toList.map fun p => (p.1, ev p.2))).map (·, h)
  | .buildSlice t len parts => aBuildSlice P t len (parts.toList.map fun p => (p.1, ev p.2)) h
  | .load t a => (aLoad P t (ev a) h).map (·, h)
  | .store t a x => (aStore P t (ev a) (ev x) h).map (.v undef, ·)
  | .binOp op t x y _ => (aBin P op t x y (ev x) (ev y) h).map (·, h)
  | .unOp op _ x => match ev x with
    | .v a => (pv P (Op.unary op a)).map (.v ·, h)
    | _ => none
  | .convert s d x => match ev x with
    | .v a => (pv P (convert s d a)).map (.v ·, h)
    | .ptr id k off => (aUnsafe P s d id k off h).map (·, h)
    | y => (aBytes P s d y h).map (·, h)
  | .makeFunc f a b => some (.fn f (a.toList.map ev) (b.toList.map ev), h)
  | .makeInterface t x => match P.underlying t with
    | some (.interface _) => none
    | some _ => some (.ifc t (ev x), h)
    | none => none
  | .makeMap t r => match r.map ev with
    | none => some (.mp h.length, h ++ [.map []])
    | some (.v (.int _ _)) => if tyIsMap P t then some (.mp h.length, h ++ [.map []]) else none
    | _ => none
  | .makeSlice t l c => match aMake P t (ev l) (ev c) h with
    | some x => some x
    | none => aMakeN P t (ev l) (ev c) h
  | .slice t x lo hi mx => match mx with
    | none => (aSlice P t (ev x) (lo.map ev) (hi.map ev) h).map (·, h)
    | some m => aSlice0 P t (ev x) (lo.map ev) (hi.map ev) (some (ev m)) h
  | .fieldAddr t x i => (aFieldAddr P t (ev x) i h).map (·, h)
  | .field t x i => (aField P t (ev x) i).map (·, h)
  | .indexAddr t x i => (aIndexAddr P t (ev x) (ev i) h).map (·, h)
  | .index t x i => match ev x, ev i with
    | .v a, .v b => (pv P (Instr.index t a b)).map (.v ·, h)
    | _, _ => none
  | .lookup t x k ok => (aLookup P t (ev x) (ev k) ok h).map (·, h)
  | .mapUpdate t m k x => (aMapUpdate P t (ev m) (ev k) (ev x) h).map (.v undef, ·)
  | .insert t m k x => (aMapUpdate P t (ev m) (ev k) (ev x) h).map (.v undef, ·)
  | .extract t i => (aExtract (ev t) i).map (·, h)
  | .nilCheck x => if aNotNilP h (ev x) = true then some (ev x, h) else none
  | .typeAssert x xt t ok => (aAssert P (ev x) xt t ok).map (·, h)
  | .range t x => match P.underlying t, ev x with
    | some .string, .v (.string s) => some (.mp h.length, h ++ [.iter s 0])
    | _, _ => none
  | .next it true => aNext (ev it) h
  | .call c => match c.callee with
    | .builtin .len => match c.args.toList, c.argTypes.toList with
      | [x], [t] => (aLen P t ty (ev x) h).map (·, h)
      | _, _ => none
    | .builtin .append => match c.args.toList, c.argTypes.toList with
      | [x, y], [t, u] => aAppend P t u (ev x) (ev y) h
      | _, _ => none
    | .builtin .cap => match c.args.toList, c.argTypes.toList with
      | [x], [t] => (aCap P t ty (ev x) h).map (·, h)
      | _, _ => none
    | .builtin .unsafeSliceData => match c.args.toList with
      | [x] => (aSliceData (ev x)).map (·, h)
      | _ => none
    | .builtin .unsafeString => match c.args.toList, c.argTypes.toList with
      | [x, y], [t, _] => aUnsafeString P t (ev x) (ev y) h
      | _, _ => none
    | .builtin .copy => match c.args.toList, c.argTypes.toList with
      | [x, y], [t, _] => aCopy P t (ev x) (ev y) h
      | _, _ => none
    | .builtin .min => match c.args.toList.map ev with
      | [.v a, .v b] => (pv P (Builtin.min_ c.argTypes ty #[a, b])).map (.v ·, h)
      | _ => none
    | .builtin .max => match c.args.toList.map ev with
      | [.v a, .v b] => (pv P (Builtin.max_ c.argTypes ty #[a, b])).map (.v ·, h)
      | _ => none
    | _ => none
  | _ => none

/-- what an operation does, related -/
def OpRel (P : Program) (o : Oper) (ρ : Operand → Value) (c : Cx) (r : AV) (h' : AH) : Prop :=
  ∃ c', Ev c c' ∧ St c' ∧ c'.h = h' ∧ ((∃ x, (execOp ρ o).run P c.w = .ok (.value x) c'.w ∧ Rel c' r x) ∨ ((execOp ρ o).run P c.w = .ok .skip c'.w ∧ Rel c' r undef))

theorem OpRel.pure {P : Program} {o : Oper} {ρ : Operand → Value} {c : Cx} (hst : St c) {r : AV} {x : Value} (hrun : (execOp ρ o).run P c.w = .ok (.value x) c.w) (hr : Rel c r x) : OpRel P o ρ c r c.h :=
  ⟨c, Ev.refl c, hst, rfl, .inl ⟨x, hrun, hr⟩⟩

theorem relL_parts {c : Cx} {ev : Operand → AV} {ρ : Operand → Value} (hev : ∀ x, Rel c (ev x) (ρ x)) (parts : Array (Nat × Operand)) :
    (parts.toList.map fun p => (p.1, ev p.2)).map (·.1) = (parts.map fun (i, x) => (i, ρ x)).toList.map (·.1) ∧
    RelL c ((parts.toList.map fun p => (p.1, ev p.2)).map (·.2)) ((parts.map fun (i, x) => (i, ρ x)).toList.map (·.2)).toArray := by
  refine ⟨by simp, by simp, fun j a u ha hu => ?_⟩
  simp only [List.map_map, List.getElem?_map, Option.map_eq_some_iff, Array.getElem?_toList] at ha
  obtain ⟨p, hp, rfl⟩ := ha
  simp [hp] at hu
  subst hu
  exact hev p.2

theorem relL_map {c : Cx} {ev : Operand → AV} {ρ : Operand → Value} (hev : ∀ x, Rel c (ev x) (ρ x)) (xs : Array Operand) : RelL c (xs.toList.map ev) (xs.map ρ) := by
  refine ⟨by simp, fun j a u ha hu => ?_⟩
  simp only [List.getElem?_map, Option.map_eq_some_iff, Array.getElem?_toList] at ha
  obtain ⟨p, hp, rfl⟩ := ha
  simp [hp] at hu
  subst hu
  exact hev p

theorem relO_map {c : Cx} {ev : Operand → AV} {ρ : Operand → Value} (hev : ∀ x, Rel c (ev x) (ρ x)) (x : Option Operand) : RelO c (x.map ev) (x.map ρ) := by
  cases x with
  | none => trivial
  | some x => exact hev x

theorem list_two {α : Type} {a : Array α} {x y : α} (h : a.toList = [x, y]) : a = #[x, y] := by
  apply Array.ext'; simpa using h
theorem list_one {α : Type} {a : Array α} {x : α} (h : a.toList = [x]) : a = #[x] := by
  apply Array.ext'; simpa using h

theorem aop_sound {P : Program} {o : Oper} {c : Cx} (hst : St c) {ev : Operand → AV} {ρ : Operand → Value} (hev : ∀ x, Rel c (ev x) (ρ x)) {r : AV} {h' : AH} (ha : aop P ev o.type c.h o.op = some (r, h')) : OpRel P o ρ c r h' := by
  have val : ∀ {x : Value} {s : Sem Value}, execOp ρ o = (do pure (.value (← s))) → s.run P c.w = .ok x c.w → (execOp ρ o).run P c.w = .ok (.value x) c.w := by
    intro x s h1 h2; rw [h1]; simp [h2]
  have val' : ∀ {x : Value} {s : Sem Value} {w : World}, execOp ρ o = (do pure (.value (← s))) → s.run P c.w = .ok x w → (execOp ρ o).run P c.w = .ok (.value x) w := by
    intro x s w h1 h2; rw [h1]; simp [h2]
  have unit' : ∀ {s : Sem Unit} {w : World}, execOp ρ o = (do s; pure .skip) → s.run P c.w = .ok () w → (execOp ρ o).run P c.w = .ok .skip w := by
    intro s w h1 h2; rw [h1]; simp [h2]
  cases hop : o.op with
  | move x => simp only [aop, hop] at ha; cases ha; exact OpRel.pure hst (x := ρ x) (by simp [execOp, hop]) (hev x)
  | assign x => simp only [aop, hop] at ha; cases ha; exact OpRel.pure hst (x := ρ x) (by simp [execOp, hop]) (hev x)
  | pick q a b =>
    simp only [aop, hop] at ha
    split at ha
    · rename_i t hq
      cases ha
      have h1 := hev q
      rw [hq] at h1
      generalize hu : ρ q = u at h1
      cases h1
      refine OpRel.pure hst (x := if t then ρ a else ρ b) (by simp [execOp, hop, hu, asBool]) ?_
      cases t
      · exact hev b
      · exact hev a
    · cases ha
  | alloc t =>
    simp only [aop, hop] at ha
    split at ha
    · rename_i z hz
      split at ha
      · rename_i h1
        cases ha
        obtain ⟨c', hrun, h2, h3, h4, h5⟩ := alloc_sound (P := P) hst hz h1
        exact ⟨c', h2, h3, h4, .inl ⟨_, val' (by simp [execOp, hop]) hrun, h5⟩⟩
      · cases ha
    · cases ha
  | box t x =>
    simp only [aop, hop] at ha
    split at ha
    · rename_i h1
      cases ha
      obtain ⟨c', hrun, h2, h3, h4, h5⟩ := box_sound (P := P) (ty := t) hst (hev x) h1
      exact ⟨c', h2, h3, h4, .inl ⟨_, val' (by simp [execOp, hop]) hrun, h5⟩⟩
    · cases ha
  | build t parts =>
    simp only [aop, hop, Option.map_eq_some_iff] at ha
    obtain ⟨a, ha, he⟩ := ha
    cases he
    obtain ⟨h1, h2⟩ := relL_parts hev parts
    obtain ⟨y, hrun, hr⟩ := build_sound ha h1 h2
    exact OpRel.pure hst (val (by simp [execOp, hop]) hrun) hr
  | buildSlice t len parts =>
    simp only [aop, hop] at ha
    obtain ⟨h1, h2⟩ := relL_parts hev parts
    obtain ⟨y, c', hrun, h3, h4, h5, h6⟩ := buildSlice_sound hst ha h1 h2
    exact ⟨c', h3, h4, h5, .inl ⟨_, val' (by simp [execOp, hop]) hrun, h6⟩⟩
  | load t a =>
    simp only [aop, hop, Option.map_eq_some_iff] at ha
    obtain ⟨x, ha, he⟩ := ha
    cases he
    obtain ⟨y, hrun, hr⟩ := aLoad_sound hst ha (hev a)
    exact OpRel.pure hst (val (by simp [execOp, hop]) hrun) hr
  | store t a x =>
    simp only [aop, hop, Option.map_eq_some_iff] at ha
    obtain ⟨h2, ha, he⟩ := ha
    cases he
    obtain ⟨c', hrun, h3, h4, h5⟩ := aStore_sound hst ha (hev a) (hev x)
    exact ⟨c', h3, h4, h5, .inr ⟨unit' (by simp [execOp, hop]) hrun, .v _⟩⟩
  | binOp op t x y yt =>
    simp only [aop, hop, Option.map_eq_some_iff] at ha
    obtain ⟨a, ha, he⟩ := ha
    cases he
    obtain ⟨z, hrun, hr⟩ := bin_sound hst ha (hev x) (hev y)
    exact OpRel.pure hst (val (by simp [execOp, hop]) hrun) hr
  | nilCheck x =>
    simp only [aop, hop] at ha
    split at ha
    · rename_i hn
      cases ha
      obtain ⟨a, hu⟩ := notNilP_sound hn (hev x)
      exact OpRel.pure hst (x := ρ x) (by simp [execOp, hop, hu]) (hev x)
    · cases ha
  | typeAssert x xt t ok =>
    simp only [aop, hop, Option.map_eq_some_iff] at ha
    obtain ⟨y, ha, he⟩ := ha
    cases he
    obtain ⟨z, hrun, hr⟩ := assert_sound (P := P) (c := c) (xt := xt) ha (hev x)
    exact OpRel.pure hst (val (by simp [execOp, hop]) hrun) hr
  | range t x =>
    simp only [aop, hop] at ha
    split at ha
    · rename_i s ht hx
      cases ha
      have h1 := hev x
      rw [hx] at h1
      generalize hu : ρ x = u at h1
      cases h1
      obtain ⟨c', hrun, h3, h4, h5, h6⟩ := range_sound (P := P) hst ht s
      exact ⟨c', h3, h4, h5, .inl ⟨_, val' (by simp [execOp, hop, hu]) hrun, h6⟩⟩
    · cases ha
  | next it b =>
    cases b with
    | false => simp [aop, hop] at ha
    | true =>
      simp only [aop, hop] at ha
      obtain ⟨y, c', hrun, h3, h4, h5, h6⟩ := next_sound (P := P) hst ha (hev it) o.type
      exact ⟨c', h3, h4, h5, .inl ⟨_, val' (by simp [execOp, hop]) hrun, h6⟩⟩
  | unOp op t x =>
    simp only [aop, hop] at ha
    split at ha
    · rename_i a hx
      simp only [Option.map_eq_some_iff] at ha
      obtain ⟨y, ha, he⟩ := ha
      cases he
      have h1 := hev x
      rw [hx] at h1
      generalize hu : ρ x = u at h1
      cases h1
      exact OpRel.pure hst (val (by simp [execOp, hop, hu]) (pv_run ha _)) (.v _)
    · cases ha
  | convert s d x =>
    simp only [aop, hop] at ha
    split at ha
    · rename_i a hx
      simp only [Option.map_eq_some_iff] at ha
      obtain ⟨y, ha, he⟩ := ha
      cases he
      have h1 := hev x
      rw [hx] at h1
      generalize hu : ρ x = u at h1
      cases h1
      exact OpRel.pure hst (val (by simp [execOp, hop, hu]) (pv_run ha _)) (.v _)
    · rename_i id k off hx
      simp only [Option.map_eq_some_iff] at ha
      obtain ⟨y, ha, he⟩ := ha
      cases he
      have h1 := hev x
      rw [hx] at h1
      obtain ⟨z, hrun, hr⟩ := unsafe_sound (P := P) hst ha h1
      exact OpRel.pure hst (val (by simp [execOp, hop]) hrun) hr
    · simp only [Option.map_eq_some_iff] at ha
      obtain ⟨y, ha, he⟩ := ha
      cases he
      obtain ⟨z, hrun, hr⟩ := bytes_sound (P := P) hst ha (hev x)
      exact OpRel.pure hst (val (by simp [execOp, hop]) hrun) hr
  | makeFunc f a b =>
    simp only [aop, hop] at ha
    cases ha
    have h1 := relL_map hev a
    have h2 := relL_map hev b
    exact OpRel.pure hst (x := .func f (a.map ρ) (b.map ρ)) (by simp [execOp, hop, Instr.makeFunc]) (.fn f _ _ _ _ h1.1 h2.1 h1.2 h2.2)
  | makeInterface t x =>
    simp only [aop, hop] at ha
    split at ha
    · cases ha
    · rename_i d hd hu
      cases ha
      refine OpRel.pure hst (x := .iface t (ρ x)) (val (s := Instr.makeInterface t (ρ x)) (by simp [execOp, hop]) ?_) (.ifc t _ _ (hev x))
      cases d <;> first | (exact (hd _ rfl).elim) | simp [Instr.makeInterface, underlying, hu]
    · cases ha
  | makeMap t r =>
    simp only [aop, hop] at ha
    split at ha
    · rename_i hr
      cases ha
      cases r with
      | none =>
        obtain ⟨c', hrun, h2, h3, h4, h5⟩ := makeMap_sound (P := P) hst t none (fun v h => by cases h)
        exact ⟨c', h2, h3, h4, .inl ⟨_, val' (by simp [execOp, hop]) hrun, h5⟩⟩
      | some x => simp at hr
    · rename_i q n hr
      split at ha
      · rename_i hm
        cases ha
        cases r with
        | none => simp at hr
        | some x =>
          simp only [Option.map_some, Option.some.injEq] at hr
          have h1 := hev x
          rw [hr] at h1
          generalize hu : ρ x = u at h1
          cases h1
          obtain ⟨c', hrun, h2, h3, h4, h5⟩ := makeMap_sound (P := P) hst t (some (.int q n)) (fun v h => by
            cases h
            refine ⟨?_, q, n, rfl⟩
            unfold tyIsMap at hm
            split at hm
            · rename_i k e hu'; exact ⟨k, e, hu'⟩
            · cases hm)
          exact ⟨c', h2, h3, h4, .inl ⟨_, val' (by simp [execOp, hop, hu]) hrun, h5⟩⟩
      · cases ha
    · cases ha
  | makeSlice t l n =>
    simp only [aop, hop] at ha
    split at ha
    · rename_i x hm
      cases ha
      obtain ⟨y, c', hrun, h2, h3, h4, h5⟩ := make_sound hst hm (hev l) (hev n)
      exact ⟨c', h2, h3, h4, .inl ⟨_, val' (by simp [execOp, hop]) hrun, h5⟩⟩
    · obtain ⟨y, c', hrun, h2, h3, h4, h5⟩ := makeN_sound hst ha (hev l) (hev n)
      exact ⟨c', h2, h3, h4, .inl ⟨_, val' (by simp [execOp, hop]) hrun, h5⟩⟩
  | slice t x lo hi mx =>
    simp only [aop, hop] at ha
    cases mx with
    | some m =>
      simp only at ha
      obtain ⟨y, c', hrun, h2, h3, h4, h5⟩ := slice0_sound hst ha (hev x) (relO_map hev lo) (relO_map hev hi) (relO_map hev (some m))
      exact ⟨c', h2, h3, h4, .inl ⟨_, val' (by simp [execOp, hop]) hrun, h5⟩⟩
    | none =>
      simp only [Option.map_eq_some_iff] at ha
      obtain ⟨y, ha, he⟩ := ha
      cases he
      obtain ⟨y, hrun, hr⟩ := slice_sound hst ha (hev x) (relO_map hev lo) (relO_map hev hi)
      exact OpRel.pure hst (val (by simp [execOp, hop]) hrun) hr
  | fieldAddr t x i =>
    simp only [aop, hop, Option.map_eq_some_iff] at ha
    obtain ⟨y, ha, he⟩ := ha
    cases he
    obtain ⟨y, hrun, hr⟩ := fieldAddr_sound ha (hev x)
    exact OpRel.pure hst (val (by simp [execOp, hop]) hrun) hr
  | field t x i =>
    simp only [aop, hop, Option.map_eq_some_iff] at ha
    obtain ⟨y, ha, he⟩ := ha
    cases he
    obtain ⟨y, hrun, hr⟩ := field_sound ha (hev x)
    exact OpRel.pure hst (val (by simp [execOp, hop]) hrun) hr
  | indexAddr t x i =>
    simp only [aop, hop, Option.map_eq_some_iff] at ha
    obtain ⟨y, ha, he⟩ := ha
    cases he
    obtain ⟨y, hrun, hr⟩ := indexAddr_sound ha (hev x) (hev i)
    exact OpRel.pure hst (val (by simp [execOp, hop]) hrun) hr
  | index t x i =>
    simp only [aop, hop] at ha
    split at ha
    · rename_i a b hx hi
      simp only [Option.map_eq_some_iff] at ha
      obtain ⟨y, ha, he⟩ := ha
      cases he
      have h1 := hev x
      rw [hx] at h1
      have h2 := hev i
      rw [hi] at h2
      generalize hu : ρ x = u at h1
      generalize hu2 : ρ i = u2 at h2
      cases h1; cases h2
      exact OpRel.pure hst (val (by simp [execOp, hop, hu, hu2]) (pv_run ha _)) (.v _)
    · cases ha
  | lookup t x k ok =>
    simp only [aop, hop, Option.map_eq_some_iff] at ha
    obtain ⟨y, ha, he⟩ := ha
    cases he
    obtain ⟨y, hrun, hr⟩ := lookup_sound hst ha (hev x) (hev k)
    exact OpRel.pure hst (val (by simp [execOp, hop]) hrun) hr
  | mapUpdate t m k x =>
    simp only [aop, hop, Option.map_eq_some_iff] at ha
    obtain ⟨h2, ha, he⟩ := ha
    cases he
    obtain ⟨c', hrun, h3, h4, h5⟩ := mapUpdate_sound hst ha (hev m) (hev k) (hev x)
    exact ⟨c', h3, h4, h5, .inr ⟨unit' (by simp [execOp, hop]) hrun, .v _⟩⟩
  | insert t m k x =>
    simp only [aop, hop, Option.map_eq_some_iff] at ha
    obtain ⟨h2, ha, he⟩ := ha
    cases he
    obtain ⟨c', hrun, h3, h4, h5⟩ := mapUpdate_sound hst ha (hev m) (hev k) (hev x)
    exact ⟨c', h3, h4, h5, .inr ⟨unit' (by simp [execOp, hop]) hrun, .v _⟩⟩
  | extract t i =>
    simp only [aop, hop, Option.map_eq_some_iff] at ha
    obtain ⟨y, ha, he⟩ := ha
    cases he
    obtain ⟨y, hrun, hr⟩ := extract_sound ha (hev t)
    exact OpRel.pure hst (val (by simp [execOp, hop]) hrun) hr
  | call q =>
    obtain ⟨callee, args, argTypes⟩ := q
    cases callee with
    | builtin b =>
      cases b <;> simp only [aop, hop] at ha <;> try (cases ha; done)
      case append =>
        split at ha
        · rename_i x y t u hx ht
          have e1 := list_two hx
          have e2 := list_two ht
          subst e1; subst e2
          obtain ⟨y, c', hrun, h3, h4, h5, h6⟩ := append_sound (ty := o.type) hst ha (hev x) (hev y)
          exact ⟨c', h3, h4, h5, .inl ⟨y, by simp [execOp, hop, resolve, invoke, builtin, hrun], h6⟩⟩
        · cases ha
      case cap =>
        split at ha
        · rename_i x t hx ht
          simp only [Option.map_eq_some_iff] at ha
          obtain ⟨z, ha, he⟩ := ha
          cases he
          have e1 := list_one hx
          have e2 := list_one ht
          subst e1; subst e2
          obtain ⟨y, hrun, hr⟩ := cap_sound (ty := o.type) ha (hev x)
          exact OpRel.pure hst (x := y) (by simp [execOp, hop, resolve, invoke, builtin, hrun]) hr
        · cases ha
      case copy =>
        split at ha
        · rename_i x y t u hx ht
          have e1 := list_two hx
          have e2 := list_two ht
          subst e1; subst e2
          obtain ⟨z, c', hrun, h3, h4, h5, h6⟩ := copy_sound (t' := u) (ty := o.type) hst ha (hev x) (hev y)
          exact ⟨c', h3, h4, h5, .inl ⟨z, by simp [execOp, hop, resolve, invoke, builtin, hrun], h6⟩⟩
        · cases ha
      case len =>
        split at ha
        · rename_i x t hx ht
          simp only [Option.map_eq_some_iff] at ha
          obtain ⟨y, ha, he⟩ := ha
          cases he
          have e1 := list_one hx
          have e2 := list_one ht
          subst e1; subst e2
          obtain ⟨y, hrun, hr⟩ := len_sound hst ha (hev x)
          exact OpRel.pure hst (by simp [execOp, hop, resolve, invoke, builtin, hrun]) hr
        · cases ha
      case max =>
        split at ha
        · rename_i a b hab
          simp only [Option.map_eq_some_iff] at ha
          obtain ⟨y, ha, he⟩ := ha
          cases he
          obtain ⟨x, y', hx⟩ : ∃ x y', args.toList = [x, y'] := by
            have := congrArg List.length hab
            simp at this
            match hl : args.toList with
            | [x, y'] => exact ⟨x, y', rfl⟩
            | [] => rw [hl] at hab; simp at hab
            | [_] => rw [hl] at hab; simp at hab
            | _ :: _ :: _ :: _ => rw [hl] at hab; simp at hab
          rw [hx] at hab
          simp only [List.map_cons, List.map_nil, List.cons.injEq, and_true] at hab
          have e1 := list_two hx
          subst e1
          have h1 := hev x
          have h2 := hev y'
          rw [hab.1] at h1
          rw [hab.2] at h2
          generalize hu : ρ x = u at h1
          generalize hu2 : ρ y' = u2 at h2
          cases h1; cases h2
          exact OpRel.pure hst (by simp [execOp, hop, resolve, invoke, builtin, hu, hu2, pv_run ha]) (.v _)
        · cases ha
      case min =>
        split at ha
        · rename_i a b hab
          simp only [Option.map_eq_some_iff] at ha
          obtain ⟨y, ha, he⟩ := ha
          cases he
          obtain ⟨x, y', hx⟩ : ∃ x y', args.toList = [x, y'] := by
            match hl : args.toList with
            | [x, y'] => exact ⟨x, y', rfl⟩
            | [] => rw [hl] at hab; simp at hab
            | [_] => rw [hl] at hab; simp at hab
            | _ :: _ :: _ :: _ => rw [hl] at hab; simp at hab
          rw [hx] at hab
          simp only [List.map_cons, List.map_nil, List.cons.injEq, and_true] at hab
          have e1 := list_two hx
          subst e1
          have h1 := hev x
          have h2 := hev y'
          rw [hab.1] at h1
          rw [hab.2] at h2
          generalize hu : ρ x = u at h1
          generalize hu2 : ρ y' = u2 at h2
          cases h1; cases h2
          exact OpRel.pure hst (by simp [execOp, hop, resolve, invoke, builtin, hu, hu2, pv_run ha]) (.v _)
        · cases ha
      case unsafeSliceData =>
        split at ha
        · rename_i x hx
          simp only [Option.map_eq_some_iff] at ha
          obtain ⟨y, ha, he⟩ := ha
          cases he
          have e1 := list_one hx
          subst e1
          obtain ⟨y, hrun, hr⟩ := sliceData_sound (P := P) (c := c) (ts := argTypes) (ty := o.type) ha (hev x)
          exact OpRel.pure hst (by simp [execOp, hop, resolve, invoke, builtin, hrun]) hr
        · cases ha
      case unsafeString =>
        split at ha
        · rename_i x y t u hx ht
          have e1 := list_two hx
          have e2 := list_two ht
          subst e1; subst e2
          obtain ⟨y, c', hrun, h3, h4, h5, h6⟩ := unsafeString_sound (it := u) (ty := o.type) hst ha (hev x) (hev y)
          exact ⟨c', h3, h4, h5, .inl ⟨y, by simp [execOp, hop, resolve, invoke, builtin, hrun], h6⟩⟩
        · cases ha
    | value f => simp only [aop, hop] at ha; cases ha
    | invoke a b => simp only [aop, hop] at ha; cases ha
  | _ => simp only [aop, hop] at ha; cases ha


/-- appends to rows of known room: these write to what is there -/
def aopR (P : Program) (ev : Operand → AV) (h : AH) : Op → Option (AV × AH)
  | .call c => match c.callee with
    | .builtin .append => match c.args.toList, c.argTypes.toList with
      | [x, y], [t, u] => match ev y with
        | .v (.int _ k) => match ev x with
          | .v (.slice none 0 0) => aAppendZ0 P t u k h
          | s => aAppendZ P t u s k h
        | .v (.string str) => aAppendS P t u (ev x) str h
        | z => aAppendR P t u (ev x) z h
      | _, _ => none
    | _ => none
  | _ => none

theorem aopR_sound {P : Program} {o : Oper} {c : Cx} (hst : St c) {ev : Operand → AV} {ρ : Operand → Value} (hev : ∀ x, Rel c (ev x) (ρ x)) {r : AV} {h' : AH} (ha : aopR P ev c.h o.op = some (r, h')) : OpRel P o ρ c r h' := by
  cases hop : o.op with
  | call q =>
    obtain ⟨callee, args, argTypes⟩ := q
    cases callee with
    | builtin b =>
      cases b <;> simp only [aopR, hop] at ha <;> try (cases ha; done)
      case append =>
        split at ha
        · rename_i x y t u hx ht
          have e1 := list_two hx
          have e2 := list_two ht
          subst e1; subst e2
          split at ha
          · rename_i q k hy
            have h1 := hev y
            rw [hy] at h1
            generalize hu : ρ y = uy at h1
            cases h1
            split at ha
            · rename_i hx0
              have h2 := hev x
              rw [hx0] at h2
              generalize hu2 : ρ x = ux at h2
              cases h2
              obtain ⟨z, c', hrun, h3, h4, h5, h6⟩ := appendZ0_sound (ty := o.type) (q := q) hst ha
              exact ⟨c', h3, h4, h5, .inl ⟨z, by simp [execOp, hop, resolve, invoke, builtin, hu, hu2, hrun], h6⟩⟩
            · obtain ⟨z, c', hrun, h3, h4, h5, h6⟩ := appendZ_sound (ty := o.type) (q := q) hst ha (hev x)
              exact ⟨c', h3, h4, h5, .inl ⟨z, by simp [execOp, hop, resolve, invoke, builtin, hu, hrun], h6⟩⟩
          · rename_i str hy
            have h1 := hev y
            rw [hy] at h1
            generalize hu : ρ y = uy at h1
            cases h1
            obtain ⟨z, c', hrun, h3, h4, h5, h6⟩ := appendS_sound (ty := o.type) hst ha (hev x)
            exact ⟨c', h3, h4, h5, .inl ⟨z, by simp [execOp, hop, resolve, invoke, builtin, hu, hrun], h6⟩⟩
          · obtain ⟨y, c', hrun, h3, h4, h5, h6⟩ := appendR_sound (ty := o.type) hst ha (hev x) (hev y)
            exact ⟨c', h3, h4, h5, .inl ⟨y, by simp [execOp, hop, resolve, invoke, builtin, hrun], h6⟩⟩
        · cases ha
    | _ => simp [aopR, hop] at ha
  | _ => simp [aopR, hop] at ha

end Go.Proofs.YthkiabcdkhpheaaDoor.Ab

/-
  The abstract program logic: an operation, a region in the order of the text.
-/
set_option linter.unusedVariables false
namespace Go.Proofs.YthkiabcdkhpheaaDoor.Ab

/-- may an operation be carried out, by its guard -/
def awanted (ops : Array Oper) (tm : Nat → AV) (o : Oper) : Option Bool :=
  match o.guard with
  | none => some true
  | some (j, want) => match (ops[j]?).bind (·.dst) with
    | some d => match tm d with
      | .v (.bool b) => some (b == want)
      | .v _ => some false
      | _ => none
    | none => some false

theorem awanted_sound {N : Nat} {base : Bs × Fence} {c : Cx} {s : AS} {a : Act} (hr : SR N base c s a) {ops : Array Oper} {o : Oper} {b : Bool} (h : awanted ops s.tm o = some b) : Region.wanted o (yielded ops a.tmps) = b := by
  unfold awanted at h
  unfold Region.wanted yielded
  cases hg : o.guard with
  | none => simp only [hg] at h; cases h; rfl
  | some jw =>
    obtain ⟨j, want⟩ := jw
    simp only [hg] at h ⊢
    cases hd : (ops[j]?).bind (·.dst) with
    | none => simp only [hd] at h; cases h; rfl
    | some d =>
      simp only [hd, Option.bind_some] at h ⊢
      have h1 := hr.tm d
      rw [Array.getD_eq_getD_getElem?] at h1
      cases ht : s.tm d with
      | v x =>
        rw [ht] at h1
        simp only [ht] at h
        cases hx : a.tmps[d]? with
        | none =>
          rw [hx] at h1
          simp only [Option.getD_none] at h1
          have hxu : x = undef := by generalize hu : undef = u at h1; cases h1; rfl
          subst hxu
          simp only [undef] at h
          cases h
          rfl
        | some y =>
          rw [hx] at h1
          simp only [Option.getD_some] at h1
          have hxu : x = y := by cases h1; rfl
          subst hxu
          cases x <;> simp only [Option.some.injEq] at h <;> subst h <;> rfl
      | _ => simp only [ht] at h; cases h

/-- how it goes on behind a call -/
def contW (K : AS → Prop) (E : AV → AS → Prop) (N : Nat) (s : AS) (d : Option Tmp) : AOut → AH → Prop
  | .ret r, h' => K (AS.put N { s with h := h' } d r)
  | .panic r, h' => E r { s with h := h' }

/-- is a slice without elements nil -/
def nilAsk (P : Program) (ev : Operand → AV) : Op → Bool
  | .binOp op t x y _ => (match op with | .eql | .neq => true | _ => false) && (match ev x, ev y with | .sl _ [] _, .v (.slice none 0 0) => true | _, _ => false) && (match P.underlying t with | some (.slice _) => true | _ => false)
  | _ => false

/-- a new slice without elements: it is to grow, or what is appended to it makes a row of its own -/
def RowW (N e n : Nat) (s : AS) (d : Option Tmp) (K : AS → Prop) : Prop :=
  K (AS.put N { s with h := s.h ++ [.grow e n 0] } d (.sl n [] (some s.h.length))) ∨ K (AS.put N { s with h := s.h ++ [.dead] } d (.sl n [] (some s.h.length)))

def OpW (P : Program) (N : Nat) (o : Oper) (s : AS) (K : AS → Prop) (E : AV → AS → Prop) : Prop :=
  match o.op with
  | .buildSlice t 0 ps =>
    match elemInfo P t, ps.toList with
    | some (e, n), [] => aBuildSlice P t 0 [] s.h = some (.sl n [] (some s.h.length), s.h ++ [.grow e n 0]) ∧ RowW N e n s o.dst K
    | _, _ => False
  | .call q =>
    match q.callee with
    | .value f => FunW P (s.ev f) (q.args.toList.map s.ev) s.h (contW K E N s o.dst)
    | _ => match aop P s.ev o.type s.h o.op with
      | some (r, h') => K (AS.put N { s with h := h' } o.dst r)
      | none => match aopR P s.ev s.h o.op with
        | some (r, h') => K (AS.put N { s with h := h' } o.dst r)
        | none => False
  | .panic x => match s.ev x with
    | .ifc t y => E (.ifc t y) s
    | _ => False
  | op => match aop P s.ev o.type s.h op with
    | some (r, h') => K (AS.put N { s with h := h' } o.dst r)
    | none => nilAsk P s.ev op = true ∧ ∀ b, K (AS.put N s o.dst (.v (.bool b)))

theorem nilAsk_sound {P : Program} {c : Cx} {ev : Operand → AV} {ρ : Operand → Value} (hev : ∀ x, Rel c (ev x) (ρ x)) {o : Oper} (h : nilAsk P ev o.op = true) : ∃ b, (execOp ρ o).run P c.w = .ok (.value (.bool b)) c.w := by
  cases ho : o.op with
  | binOp op t x y yt =>
    rw [ho] at h
    simp only [nilAsk, Bool.and_eq_true] at h
    obtain ⟨⟨h1, h2⟩, h3⟩ := h
    split at h2
    · rename_i s own e1 e2
      have hx := hev x
      have hy := hev y
      rw [e1] at hx
      rw [e2] at hy
      generalize hux : ρ x = u at hx
      generalize huy : ρ y = v at hy
      cases hy
      split at h3
      · rename_i e hu
        have heq : ∃ b, (Op.equal t u (.slice none 0 0)).run P c.w = .ok b c.w := by
          suffices h : ∀ d, ∃ b, (Op.equalIn (d + 1) t u (.slice none 0 0)).run P c.w = .ok b c.w from h 9999
          intro d
          cases hx with
          | slnil => exact ⟨true, by simp [Op.equalIn, underlying, hu]⟩
          | slzero => exact ⟨false, by simp [Op.equalIn, underlying, hu]⟩
          | sl => exact ⟨false, by simp [Op.equalIn, underlying, hu]⟩
        obtain ⟨b, hb⟩ := heq
        have hsl : ∃ a n k, u = .slice a n k := by cases hx <;> exact ⟨_, _, _, rfl⟩
        obtain ⟨a, n, k, rfl⟩ := hsl
        cases op <;> simp only [Bool.false_eq_true] at h1
        · exact ⟨b, by cases a <;> simp [execOp, ho, hux, huy, eqGuard, binOp, hb]⟩
        · exact ⟨!b, by cases a <;> simp [execOp, ho, hux, huy, eqGuard, binOp, hb]⟩
      · cases h3
    · cases h2
  | _ => rw [ho] at h; simp [nilAsk] at h

theorem aop_no_defer {P : Program} {ev : Operand → AV} {ty : TypeId} {h : AH} {q : Call} : aop P ev ty h (.defer q) = none := rfl

theorem opW_sound {P : Program} {N : Nat} {base : Bs × Fence} {o : Oper} {s : AS} {K : AS → Prop} {E : AV → AS → Prop} (H : OpW P N o s K E) {F : Fence} {n : Nat} {c : Cx} {a : Act} (hF : WF F) (hst : St c) (hr : SR N base c s a)
    {next : Act → World → Prop} {Qx : Exit → Act → World → Prop} (hK : ∀ s' c' a', K s' → Ev c c' → St c' → SR N base c' s' a' → next a' c'.w)
    (hE : ∀ r s' c' x, E r s' → Ev c c' → St c' → SR N base c' s' a → Rel c' r x → Qx (.panic [{ v := x, recovered := false }]) a c'.w) : o.wpIn F n P a c.w next Qx := by
  have hev : ∀ x, Rel c (s.ev x) (a.eval x) := hr.eval
  -- an operation of its own
  have plain : (∀ q, o.op ≠ .defer q) → ∀ {r h'}, aop P s.ev o.type s.h o.op = some (r, h') → K (AS.put N { s with h := h' } o.dst r) → o.wpIn F n P a c.w next Qx := by
    intro hd r h' ha hk
    rw [← hr.h] at ha
    obtain ⟨c', h1, h2, h3, h4⟩ := aop_sound hst hev ha
    refine ⟨fun f _ => hF.fn f, ?_⟩
    rw [Oper.semAt_eq _ _ _ hd]
    subst h3
    rcases h4 with ⟨x, hrun, hx⟩ | ⟨hrun, hx⟩
    · rw [hrun]; exact hK _ c' _ hk h1 h2 (hr.put hst h1 o.dst hx)
    · rw [hrun]; exact hK _ c' _ hk h1 h2 (hr.put hst h1 o.dst hx)
  unfold OpW at H
  split at H
  · rename_i t ps hop
    split at H
    · rename_i e n he hps
      have hps' : ps = #[] := by apply Array.ext'; simpa using hps
      subst hps'
      obtain ⟨ha, hk | hk⟩ := H
      · exact plain (fun q => by rw [hop]; intro h; cases h) (r := .sl n [] (some s.h.length)) (h' := s.h ++ [.grow e n 0]) (by rw [hop]; simpa [aop] using ha) hk
      · refine ⟨fun f _ => hF.fn f, ?_⟩
        rw [Oper.semAt_eq _ _ _ (fun q => by rw [hop]; intro h; cases h)]
        obtain ⟨hu, hsz⟩ := elemInfo_run he
        have hrun : (execOp a.eval o).run P c.w = .ok (.value (.slice (some ⟨c.w.heap.size, 0, none⟩) 0 0)) (c.w.alloc (.cells #[] e)) := by
          simp [execOp, hop, run_buildSlice_zero hu hsz c.w]
        rw [hrun]
        have hg := Grows.alloc c.w (.cells #[] e)
        have ho : ∀ B, (none : Option Nat) = some B → c.w.heap.size ≤ B := fun B h => by cases h
        have hev' := Ev.add hst hg .dead none ho
        have hst' : St (c.add (c.w.alloc (.cells #[] e)) .dead none) := St.add hst hg _ _ ho trivial
        refine hK _ (c.add (c.w.alloc (.cells #[] e)) .dead none) _ (by rw [← hr.h] at hk; exact hk) hev' hst' (hr.put hst hev' o.dst ?_)
        refine .slzero _ _ _ fun b hb => ?_
        cases hb
        refine ⟨by simp [Cx.add], fun e2 s2 n2 hg2 => ?_⟩
        simp [Cx.add] at hg2
    · exact H.elim
  · rename_i q hop
    split at H
    · rename_i f hcal
      refine ⟨fun f _ => hF.fn f, ?_⟩
      rw [Oper.semAt_eq _ _ _ (fun q => by rw [hop]; intro h; cases h)]
      have hrun : (execOp a.eval o).run P c.w = ((do let d ← Deferred.ofValue (a.eval f) (q.args.map a.eval); invoke d.target d.args : Sem Next)).run P c.w := by
        simp [execOp, hop, resolve, hcal]
      rw [hrun]
      refine H F n c _ _ hF hst hr.h (hev f) (relL_map hev q.args) o a next Qx ?_ ?_
      · intro r c' x hk h1 h2 hx
        exact hK _ c' _ hk h1 h2 (hr.put hst h1 o.dst hx)
      · intro r c' x he h1 h2 hx
        exact hE r _ c' x he h1 h2 ⟨rfl, hr.size, Nat.le_trans hr.above h1.size, hr.defers.ev h1, RoundOk.ev h1 hr.round, fun t => (hr.tm t).ev hst h1⟩ hx
    · split at H
      · rename_i r h' ha
        exact plain (fun q => by rw [hop]; intro h; cases h) ha H
      · split at H
        · rename_i r h' ha
          rw [← hr.h] at ha
          obtain ⟨c', h1, h2, h3, h4⟩ := aopR_sound hst hev ha
          refine ⟨fun f _ => hF.fn f, ?_⟩
          rw [Oper.semAt_eq _ _ _ (fun q => by rw [hop]; intro h; cases h)]
          subst h3
          rcases h4 with ⟨x, hrun, hx⟩ | ⟨hrun, hx⟩
          · rw [hrun]; exact hK _ c' _ H h1 h2 (hr.put hst h1 o.dst hx)
          · rw [hrun]; exact hK _ c' _ H h1 h2 (hr.put hst h1 o.dst hx)
        · exact H.elim
  · rename_i x hop
    split at H
    · rename_i t y hx
      have h1 := hev x
      rw [hx] at h1
      generalize hu : a.eval x = u at h1
      cases h1 with
      | ifc t y u h2 =>
        refine ⟨fun f _ => hF.fn f, ?_⟩
        rw [Oper.semAt_eq _ _ _ (fun q => by rw [hop]; intro h; cases h)]
        have hrun : (execOp a.eval o).run P c.w = .halt (.panic (.iface t u)) c.w := by
          simp [execOp, hop, Instr.panic, hu]
        rw [hrun]
        exact hE _ s c _ H (Ev.refl c) hst hr (.ifc t y u h2)
    · exact H.elim
  · rename_i op hnb hnc hnp
    split at H
    · rename_i r h' ha
      refine plain (fun q hq => ?_) ha H
      rw [hq] at ha
      simp [aop] at ha
    · obtain ⟨hq, hk⟩ := H
      obtain ⟨b, hrun⟩ := nilAsk_sound hev hq
      refine ⟨fun f _ => hF.fn f, ?_⟩
      rw [Oper.semAt_eq _ _ _ (fun q hq' => by rw [hq'] at hq; simp [nilAsk] at hq), hrun]
      have hp := hr.put hst (Ev.refl c) o.dst (.v (.bool b))
      rw [hr.h] at hp
      exact hK _ c _ (hk b) (Ev.refl c) hst hp

def OpsW (P : Program) (N : Nat) (ops : Array Oper) : List Oper → (AS → Prop) → (AV → AS → Prop) → AS → Prop
  | [], Q, E, s => Q s
  | o :: rest, Q, E, s =>
    match awanted ops s.tm o with
    | some true => OpW P N o s (OpsW P N ops rest Q E) E
    | some false => OpsW P N ops rest Q E (AS.put N s o.dst (.v undef))
    | none => False

theorem opsW_sound {P : Program} {N : Nat} {base : Bs × Fence} {ops : Array Oper} {Q : AS → Prop} {E : AV → AS → Prop} {F : Fence} {n : Nat} (hF : WF F) {Qx : Exit → Act → World → Prop} : ∀ (l : List Oper) (k : Nat) (s : AS) (c : Cx) (a : Act), (∀ j, l[j]? = ops[k + j]?) →
    OpsW P N ops l Q E s → St c → SR N base c s a → (∀ s' c' a', Q s' → Ev c c' → St c' → SR N base c' s' a' → Qx .normal a' c'.w) →
    (∀ r s' c' a' x, E r s' → Ev c c' → St c' → SR N base c' s' a' → Rel c' r x → Qx (.panic [{ v := x, recovered := false }]) a' c'.w) → wpOpsIn F n P ops Qx (List.range' k l.length) a c.w
  | [], k, s, c, a, hl, H, hst, hr, hQ, hE => by
    simp only [List.length_nil, List.range'_zero, wpOpsIn]
    exact hQ s c a H (Ev.refl c) hst hr
  | o :: l, k, s, c, a, hl, H, hst, hr, hQ, hE => by
    have h0 : ops[k]? = some o := by simpa using (hl 0).symm
    have hl' : ∀ j, l[j]? = ops[k + 1 + j]? := fun j => by have := hl (j + 1); simpa [Nat.add_assoc, Nat.add_comm 1 j] using this
    simp only [List.length_cons, List.range'_succ, wpOpsIn, h0]
    simp only [OpsW] at H
    split at H
    · rename_i hw
      rw [awanted_sound hr hw]
      simp only [if_true]
      refine opW_sound H hF hst hr ?_ ?_
      · intro s' c' a' hK h1 h2 h3
        exact opsW_sound hF l (k + 1) s' c' a' hl' hK h2 h3 (fun s2 c2 a2 q e2 t2 r2 => hQ s2 c2 a2 q (Ev.trans hst h1 e2) t2 r2) (fun r s2 c2 a2 x q e2 t2 r2 => hE r s2 c2 a2 x q (Ev.trans hst h1 e2) t2 r2)
      · intro r s' c' x he h1 h2 h3 hx
        exact hE r s' c' a x he h1 h2 h3 hx
    · rename_i hw
      rw [awanted_sound hr hw]
      simp only [Bool.false_eq_true, if_false]
      refine ⟨fun f _ => hF.fn f, ?_⟩
      have hr' := hr.put hst (Ev.refl c) o.dst (.v undef)
      rw [hr.h] at hr'
      exact opsW_sound hF l (k + 1) _ c _ hl' H hst hr' hQ hE
    · exact H.elim

theorem codeW_region {P : Program} {N : Nat} {Q : AExit → AS → Prop} {s : AS} {id : Nat} {ops : Array Oper} (H : OpsW P N ops ops.toList (fun s' => Q .normal s') (fun r s' => Q (.panic r) s') s) : CodeW P N (.region id ops false) Q s := by
  intro F n base c a hF hst hr R hR
  refine wpIn_region ?_
  rw [List.range_eq_range', ← Array.length_toList]
  refine opsW_sound hF ops.toList 0 s c a (by simp) H hst hr ?_ ?_
  · intro s' c' a' hQ h1 h2 h3
    exact hR _ s' c' a' _ hQ h1 h2 h3 rfl
  · intro r s' c' a' x hQ h1 h2 h3 hx
    exact hR _ s' c' a' _ hQ h1 h2 h3 ⟨x, rfl, hx⟩

end Go.Proofs.YthkiabcdkhpheaaDoor.Ab

/-
  The abstract program logic: what is left of a call: results, blocks that are let go; a function's contract out of its body.
-/
set_option linter.unusedVariables false
namespace Go.Proofs.YthkiabcdkhpheaaDoor.Ab

/-- all blocks that a value names have numbers below n -/
inductive Below (n : Nat) : AV → Prop
  | v (x : Value) : Below n (.v x)
  | junk : Below n .junk
  | agg (l : List AV) (h : ∀ a ∈ l, Below n a) : Below n (.agg l)
  | tup (l : List AV) (h : ∀ a ∈ l, Below n a) : Below n (.tup l)
  | sl (s : Nat) (xs : List AV) (own : Option Nat) (h : ∀ a ∈ flat xs, Below n a) (hb : ∀ b, own = some b → b < n) : Below n (.sl s xs own)
  | pin (s : Nat) (xs : List AV) (k off : Nat) (h : ∀ a ∈ flat xs, Below n a) : Below n (.pin s xs k off)
  | ptr (id k off : Nat) (h : id < n) : Below n (.ptr id k off)
  | arr (id lo len : Nat) (h : id < n) : Below n (.arr id lo len)
  | row (id lo len cap : Nat) (h : id < n) : Below n (.row id lo len cap)
  | mp (id : Nat) (h : id < n) : Below n (.mp id)
  | fn (f : Fn) (first cap : List AV) (h1 : ∀ a ∈ first, Below n a) (h2 : ∀ a ∈ cap, Below n a) : Below n (.fn f first cap)
  | ifc (t : TypeId) (x : AV) (h : Below n x) : Below n (.ifc t x)
  | spt (s : Nat) (xs : List AV) (own : Option Nat) (h : Below n (.sl s xs own)) : Below n (.spt s xs own)

theorem mem_get {α : Type} {l : List α} {a : α} (h : a ∈ l) : ∃ j : Nat, l[j]? = some a := by
  obtain ⟨j, hj, rfl⟩ := List.getElem_of_mem h
  exact ⟨j, List.getElem?_eq_getElem hj⟩
theorem get_of_size {vs : Array Value} {n j : Nat} (h : vs.size = n) (hj : j < n) : ∃ u, vs[j]? = some u := ⟨_, Array.getElem?_eq_getElem (by omega)⟩

theorem Rel.ids {c : Cx} {a : AV} {x : Value} (h : Rel c a x) : Below c.h.length a := by
  induction h with
  | v x => exact .v x
  | junk x => exact .junk
  | agg l cs hl _ ih =>
    refine .agg l fun a ha => ?_
    obtain ⟨j, hj⟩ := mem_get ha
    obtain ⟨u, hu⟩ := get_of_size hl (lt_of_get hj)
    exact ih j a u hj hu
  | tup l cs hl _ ih =>
    refine .tup l fun a ha => ?_
    obtain ⟨j, hj⟩ := mem_get ha
    obtain ⟨u, hu⟩ := get_of_size hl (lt_of_get hj)
    exact ih j a u hj hu
  | slnil s own ht => exact .sl s [] own (by simp [flat]) fun b hb => (ht b hb).1
  | slzero s own ba ht => exact .sl s [] own (by simp [flat]) fun b hb => (ht b hb).1
  | sl s xs own B o cap f hs hcap hmax hc _ ht ih =>
    refine .sl s xs own (fun a ha => ?_) fun b hb => (ht b hb).1.1
    obtain ⟨j, hj⟩ := mem_get ha
    exact ih j a hj
  | pin s xs k off B o f hs hc _ ih =>
    refine .pin s xs k off fun a ha => ?_
    obtain ⟨j, hj⟩ := mem_get ha
    exact ih j a hj
  | ptr id k off x hid ho h1 => exact .ptr id k off hid
  | arr id lo len x hid ho h1 => exact .arr id lo len hid
  | row id lo len cap x hid ho h1 => exact .row id lo len cap hid
  | mp id x hid ho h1 => exact .mp id hid
  | fn f first cap vs ws e1 e2 _ _ ih1 ih2 =>
    refine .fn f first cap (fun a ha => ?_) fun a ha => ?_
    · obtain ⟨j, hj⟩ := mem_get ha
      obtain ⟨u, hu⟩ := get_of_size e1 (lt_of_get hj)
      exact ih1 j a u hj hu
    · obtain ⟨j, hj⟩ := mem_get ha
      obtain ⟨u, hu⟩ := get_of_size e2 (lt_of_get hj)
      exact ih2 j a u hj hu
  | ifc t a u _ ih => exact .ifc t a ih
  | spt s xs own p n k _ ih => exact .spt s xs own ih

/-- blocks from m on are let go -/
def Cx.cut (c : Cx) (m : Nat) : Cx := { c with h := c.h.take m }

theorem cut_get {c : Cx} {m id : Nat} {b : AB} (h : (c.cut m).h[id]? = some b) : id < m ∧ c.h[id]? = some b := by
  have hlt := lt_of_get h
  simp only [Cx.cut, List.length_take] at hlt h
  rw [List.getElem?_take_of_lt (by omega)] at h
  exact ⟨by omega, h⟩
theorem get_cut {c : Cx} {m id : Nat} {b : AB} (hm : id < m) (h : c.h[id]? = some b) : (c.cut m).h[id]? = some b := by
  simp only [Cx.cut]; rw [List.getElem?_take_of_lt hm]; exact h

theorem prot_cut {c : Cx} {m B o : Nat} (h : c.prot B o) : (c.cut m).prot B o :=
  ⟨h.1, fun id b hb hl hρ => h.2 id b (cut_get hb).2 hl hρ⟩

theorem Rel.cut {c : Cx} {m : Nat} (hm : m ≤ c.h.length) {a : AV} {x : Value} (h : Rel c a x) (hb : Below m a) : Rel (c.cut m) a x := by
  have hlen : (c.cut m).h.length = m := by simp [Cx.cut]; omega
  induction h with
  | v x => exact .v x
  | junk x => exact .junk x
  | agg l cs hl _ ih => cases hb with | agg _ h => exact .agg l cs hl fun j a u h1 h2 => ih j a u h1 h2 (h a (List.mem_of_getElem? h1))
  | tup l cs hl _ ih => cases hb with | tup _ h => exact .tup l cs hl fun j a u h1 h2 => ih j a u h1 h2 (h a (List.mem_of_getElem? h1))
  | slnil s own ht =>
    cases hb with
    | sl _ _ _ h hown =>
      refine .slnil s own fun b hb => ⟨by rw [hlen]; exact hown b hb, fun e s' n hg => (ht b hb).2 e s' n (cut_get hg).2⟩
  | slzero s own ba ht =>
    cases hb with
    | sl _ _ _ h hown =>
      refine .slzero s own ba fun b hb => ⟨by rw [hlen]; exact hown b hb, fun e s' n hg => (ht b hb).2 e s' n (cut_get hg).2⟩
  | sl s xs own B o cap f hs hcap hmax hc _ ht ih =>
    cases hb with
    | sl _ _ _ h hown =>
      exact .sl s xs own B o cap f hs hcap hmax (fun j a hj => ⟨⟨(hc j a hj).1.1, prot_cut (hc j a hj).1.2⟩, (hc j a hj).2⟩) (fun j a hj => ih j a hj (h a (List.mem_of_getElem? hj)))
        fun b hb => ⟨⟨by rw [hlen]; exact hown b hb, let ⟨x, g1, g2⟩ := (ht b hb).1.2; ⟨x, get_cut (hown b hb) g1, g2⟩⟩, fun e s' n hg => (ht b hb).2 e s' n (cut_get hg).2⟩
  | pin s xs k off B o f hs hc _ ih =>
    cases hb with
    | pin _ _ _ _ h =>
      exact .pin s xs k off B o f hs (fun j a hj => ⟨⟨(hc j a hj).1.1, prot_cut (hc j a hj).1.2⟩, (hc j a hj).2⟩) (fun j a hj => ih j a hj (h a (List.mem_of_getElem? hj)))
  | ptr id k off x hid ho h1 => cases hb with | ptr _ _ _ h => exact .ptr id k off x (by rw [hlen]; exact h) ho fun ty s xs hg => h1 ty s xs (cut_get hg).2
  | arr id lo len x hid ho h1 => cases hb with | arr _ _ _ h => exact .arr id lo len x (by rw [hlen]; exact h) ho fun ty s xs hg => h1 ty s xs (cut_get hg).2
  | row id lo len cap x hid ho h1 => cases hb with | row _ _ _ _ h => exact .row id lo len cap x (by rw [hlen]; exact h) ho fun ty s xs hg => h1 ty s xs (cut_get hg).2
  | mp id x hid ho h1 => cases hb with | mp _ h => exact .mp id x (by rw [hlen]; exact h) ho ⟨fun es hg => h1.1 es (cut_get hg).2, fun i hg => h1.2.1 i (cut_get hg).2, fun s p hg => h1.2.2 s p (cut_get hg).2⟩
  | fn f first cap vs ws e1 e2 _ _ ih1 ih2 =>
    cases hb with
    | fn _ _ _ h1 h2 => exact .fn f first cap vs ws e1 e2 (fun j a u h3 h4 => ih1 j a u h3 h4 (h1 a (List.mem_of_getElem? h3))) (fun j a u h3 h4 => ih2 j a u h3 h4 (h2 a (List.mem_of_getElem? h3)))
  | ifc t a u _ ih => cases hb with | ifc _ _ h => exact .ifc t a u (ih h)
  | spt s xs own p n k _ ih => cases hb with | spt _ _ _ h => exact .spt s xs own p n k (ih h)

def AB.Below (n : Nat) : AB → Prop
  | .cells _ _ xs => ∀ a ∈ flat xs, Ab.Below n a
  | .grow _ _ _ => True
  | .map es => ∀ kv ∈ es, Ab.Below n kv.2
  | .loop i => ∀ t, Ab.Below n (i.tm t)
  | .iter _ _ => True
  | .glob _ _ _ _ => True
  | .dead => True
  | .gone => True

theorem Below.mono {n m : Nat} (hnm : n ≤ m) {a : AV} (h : Ab.Below n a) : Ab.Below m a := by
  induction h with
  | v x => exact .v x
  | junk => exact .junk
  | agg l _ ih => exact .agg l ih
  | tup l _ ih => exact .tup l ih
  | sl s xs own _ ho ih => exact .sl s xs own ih fun b hb => Nat.lt_of_lt_of_le (ho b hb) hnm
  | pin s xs k off _ ih => exact .pin s xs k off ih
  | ptr id k off h => exact .ptr id k off (Nat.lt_of_lt_of_le h hnm)
  | arr id lo len h => exact .arr id lo len (Nat.lt_of_lt_of_le h hnm)
  | row id lo len cap h => exact .row id lo len cap (Nat.lt_of_lt_of_le h hnm)
  | mp id h => exact .mp id (Nat.lt_of_lt_of_le h hnm)
  | fn f a b _ _ ih1 ih2 => exact .fn f a b ih1 ih2
  | ifc t a _ ih => exact .ifc t _ ih
  | spt s xs own _ ih => exact .spt s xs own ih
theorem AB.Below.mono {n m : Nat} {b : AB} (h : b.Below n) (hnm : n ≤ m) : b.Below m := by
  cases b with
  | cells t s xs => exact fun a ha => Ab.Below.mono hnm (h a ha)
  | grow => trivial
  | map es => exact fun kv hkv => Ab.Below.mono hnm (h kv hkv)
  | loop i => exact fun t => Ab.Below.mono hnm (h t)
  | iter => trivial
  | glob => trivial
  | dead => trivial
  | gone => trivial

theorem St.below {c : Cx} (hs : St c) {id : Nat} {b : AB} (hb : c.h[id]? = some b) : b.Below c.h.length := by
  have := hs.blocks id b hb
  cases b with
  | cells ty s xs =>
    obtain ⟨B, cur, h1, h2, h3, h4⟩ := this
    intro a ha
    obtain ⟨j, hj⟩ := mem_get ha
    obtain ⟨u, _, _, hr⟩ := h4 j a hj
    exact hr.ids
  | grow => trivial
  | map es =>
    obtain ⟨B, ents, clock, h1, h2, h3, h4⟩ := this
    intro kv hkv
    obtain ⟨j, hj⟩ := mem_get hkv
    have hlt : j < ents.size := by rw [h3]; exact lt_of_get hj
    exact (h4 j kv ents[j] hj (Array.getElem?_eq_getElem hlt)).2.ids
  | loop i =>
    obtain ⟨B, r, h1, h2, h3, h4⟩ := this
    exact fun t => (h4 t).ids
  | iter => trivial
  | glob => trivial
  | dead => trivial
  | gone => trivial

theorem St.cut {c : Cx} (hs : St c) {m : Nat} (hm : m ≤ c.h.length) (hb : ∀ b ∈ c.h.take m, b.Below m) : St (c.cut m) := by
  refine ⟨fun id b hg => ?_, fun i j a b B hi hj hla hlb hρi hρj => hs.inj i j a b B (cut_get hi).2 (cut_get hj).2 hla hlb hρi hρj⟩
  have hbl : b.Below m := hb b (List.mem_of_getElem? hg)
  have h0 := hs.blocks id b (cut_get hg).2
  cases b with
  | cells ty s xs =>
    obtain ⟨B, cur, h1, h2, h3, h4⟩ := h0
    exact ⟨B, cur, h1, h2, h3, fun j a hj => let ⟨u, h5, h6, h7⟩ := h4 j a hj; ⟨u, h5, h6, h7.cut hm (hbl a (List.mem_of_getElem? hj))⟩⟩
  | grow e s n => exact h0
  | map es =>
    obtain ⟨B, ents, clock, h1, h2, h3, h4⟩ := h0
    exact ⟨B, ents, clock, h1, h2, h3, fun j kv e hj he => ⟨(h4 j kv e hj he).1, (h4 j kv e hj he).2.cut hm (hbl kv (List.mem_of_getElem? hj))⟩⟩
  | loop i =>
    obtain ⟨B, r, h1, h2, h3, h4⟩ := h0
    exact ⟨B, r, h1, h2, h3, fun t => (h4 t).cut hm (hbl t)⟩
  | iter s p => exact h0
  | glob g cs ty fr => exact h0
  | dead => trivial
  | gone => trivial

theorem Ev.cut {c c' : Cx} (h : Ev c c') {m : Nat} (h1 : c.h.length ≤ m) (h2 : m ≤ c'.h.length) : Ev c (c'.cut m) := by
  refine ⟨h.os, h.tape, h.output, h.size, by simp [Cx.cut]; omega, h.frame, fun id b hb => ?_, fun id B b h3 h4 hl hρ => h.fresh id B b h3 (cut_get h4).2 hl hρ⟩
  obtain ⟨b', hb', hk⟩ := h.kin id b hb
  have hlt := lt_of_get hb
  exact ⟨b', get_cut (by omega) hb', hk⟩

/-- what a value becomes when the blocks from m on are let go: what they hold stays as it is -/
inductive Frz (h : AH) (m : Nat) : AV → AV → Prop
  | nil (s : Nat) : Frz h m (.v (.slice none 0 0)) (.sl s [] none)
  | keep {a : AV} (hb : Below m a) : Frz h m a a
  | tok {s : Nat} {xs : List AV} {own : Option Nat} (hb : ∀ a ∈ flat xs, Below m a) : Frz h m (.sl s xs own) (.sl s xs none)
  | arr {id lo len s : Nat} {ty : TypeId} {xs : List AV} (hi : m ≤ id) (hg : h[id]? = some (.cells ty s xs)) (hl : lo + len ≤ xs.length) (hb : ∀ a ∈ flat xs, Below m a) :
      Frz h m (.arr id lo len) (.sl s ((xs.drop lo).take len) none)
  | row {id lo len cap s : Nat} {ty : TypeId} {xs : List AV} (hi : m ≤ id) (hg : h[id]? = some (.cells ty s xs)) (hl : lo + len ≤ xs.length) (hb : ∀ a ∈ flat xs, Below m a) :
      Frz h m (.row id lo len cap) (.sl s ((xs.drop lo).take len) none)
  | ptr {id k off s : Nat} {ty : TypeId} {xs : List AV} (hi : m ≤ id) (hg : h[id]? = some (.cells ty s xs)) (hb : ∀ a ∈ flat xs, Below m a) : Frz h m (.ptr id k off) (.pin s xs k off)
  | agg {l l' : List AV} (hl : l'.length = l.length) (hp : ∀ (j : Nat) a a', l[j]? = some a → l'[j]? = some a' → Frz h m a a') : Frz h m (.agg l) (.agg l')
  | tup {l l' : List AV} (hl : l'.length = l.length) (hp : ∀ (j : Nat) a a', l[j]? = some a → l'[j]? = some a' → Frz h m a a') : Frz h m (.tup l) (.tup l')
  | fn {f : Fn} {a a' b b' : List AV} (hl : a'.length = a.length) (hl' : b'.length = b.length) (hp : ∀ (j : Nat) x x', a[j]? = some x → a'[j]? = some x' → Frz h m x x')
      (hq : ∀ (j : Nat) x x', b[j]? = some x → b'[j]? = some x' → Frz h m x x') : Frz h m (.fn f a b) (.fn f a' b')

theorem rel_row_cut {c : Cx} (hs : St c) {m : Nat} (hm : m ≤ c.h.length) {id B ty s : Nat} {xs : List AV} (hi : m ≤ id) (hg : c.h[id]? = some (.cells ty s xs)) (hρ : c.ρ id = some B) (hb : ∀ a ∈ flat xs, Below m a) :
    (∀ x ∈ xs, x.cells.length = s) ∧ ∃ f : Nat → Value, ∀ (j : Nat) a, (flat xs)[j]? = some a → ((c.cut m).cellP B (0 + j) (f j) ∧ (f j).oneCell' = true) ∧ Rel (c.cut m) a (f j) := by
  obtain ⟨B', cur, h1, h2, h3, h4⟩ := hs.blocks id _ hg
  rw [hρ] at h1; cases h1
  refine ⟨h3, fun j => cur.getD j undef, fun j a hj => ?_⟩
  obtain ⟨u, h5, h6, h7⟩ := h4 j a hj
  have e : cur.getD j undef = u := by rw [Array.getD_eq_getD_getElem?, h5]; rfl
  show ((c.cut m).cellP B (0 + j) (cur.getD j undef) ∧ (cur.getD j undef).oneCell' = true) ∧ Rel (c.cut m) a (cur.getD j undef)
  rw [e]
  refine ⟨⟨⟨by show c.w.cell? _ = _; rw [Nat.zero_add, cell_cells h2]; exact h5, ?_⟩, h6⟩, h7.cut hm (hb a (List.mem_of_getElem? hj))⟩
  refine ⟨hs.lt hg rfl hρ, fun id' b' hb' hl' hρ' => ?_⟩
  obtain ⟨hlt, hb''⟩ := cut_get hb'
  have := hs.inj id' id b' _ B hb'' hg hl' rfl hρ' hρ
  omega

theorem Frz.rel {c : Cx} (hs : St c) {m : Nat} (hm : m ≤ c.h.length) {a a' : AV} (h : Frz c.h m a a') : ∀ {x : Value}, Rel c a x → Rel (c.cut m) a' x := by
  induction h with
  | nil s => intro x hr; cases hr; exact .slnil s none fun b hb => by cases hb
  | keep hb => exact fun hr => hr.cut hm hb
  | @tok s xs own hb =>
    intro x hr
    cases hr with
    | slnil _ _ ht => exact .slnil s none fun b hb => by cases hb
    | slzero _ _ ba ht => exact .slzero s none ba fun b hb => by cases hb
    | sl _ _ _ B o cap f hs' hcap hmax hc hr ht =>
      exact .sl s xs none B o cap f hs' hcap hmax (fun j a hj => ⟨⟨(hc j a hj).1.1, prot_cut (hc j a hj).1.2⟩, (hc j a hj).2⟩) (fun j a hj => (hr j a hj).cut hm (hb a (List.mem_of_getElem? hj))) fun b hb => by cases hb
  | @arr id lo len s ty xs hi hg hl hb =>
    intro x hr
    cases hr with
    | arr _ _ _ x hid ho h1 =>
      obtain ⟨B, cap, hρ, rfl, h2, h3, _⟩ := h1 _ _ _ hg
      obtain ⟨h4, f, h5⟩ := rel_row_cut hs hm hi hg hρ hb
      have hlen : ((xs.drop lo).take len).length = len := by simp; omega
      have hdrop : ∀ y ∈ xs.drop lo, y.cells.length = s := fun y hy => h4 y (List.mem_of_mem_drop hy)
      have hget : ∀ (j : Nat) a, (flat ((xs.drop lo).take len))[j]? = some a → (flat xs)[lo * s + j]? = some a := by
        intro j a hj
        rw [flat_take hdrop (by simp; omega)] at hj
        have hlt := lt_of_get hj
        rw [List.length_take] at hlt
        rw [List.getElem?_take_of_lt (by omega), flat_drop h4 (by omega), List.getElem?_drop] at hj
        exact hj
      have := Rel.sl (c := c.cut m) s ((xs.drop lo).take len) none B (lo * s) cap (fun j => f (lo * s + j)) (fun y hy => hdrop y (List.mem_of_mem_take hy)) (by omega) h3
        (fun j a hj => by have := (h5 _ a (hget j a hj)).1; rwa [Nat.zero_add] at this) (fun j a hj => (h5 _ a (hget j a hj)).2) (fun b hb => by cases hb)
      rwa [hlen] at this
  | @row id lo len cap s ty xs hi hg hl hb =>
    intro x hr
    cases hr with
    | row _ _ _ _ x hid ho h1 =>
      obtain ⟨B, cur, hρ, rfl, h2, h3, _⟩ := h1 _ _ _ hg
      obtain ⟨h4, f, h5⟩ := rel_row_cut hs hm hi hg hρ hb
      have hlen : ((xs.drop lo).take len).length = len := by simp; omega
      have hdrop : ∀ y ∈ xs.drop lo, y.cells.length = s := fun y hy => h4 y (List.mem_of_mem_drop hy)
      have hget : ∀ (j : Nat) a, (flat ((xs.drop lo).take len))[j]? = some a → (flat xs)[lo * s + j]? = some a := by
        intro j a hj
        rw [flat_take hdrop (by simp; omega)] at hj
        have hlt := lt_of_get hj
        rw [List.length_take] at hlt
        rw [List.getElem?_take_of_lt (by omega), flat_drop h4 (by omega), List.getElem?_drop] at hj
        exact hj
      have := Rel.sl (c := c.cut m) s ((xs.drop lo).take len) none B (lo * s) cap (fun j => f (lo * s + j)) (fun y hy => hdrop y (List.mem_of_mem_take hy)) (by omega) h3
        (fun j a hj => by have := (h5 _ a (hget j a hj)).1; rwa [Nat.zero_add] at this) (fun j a hj => (h5 _ a (hget j a hj)).2) (fun b hb => by cases hb)
      rwa [hlen] at this
  | @ptr id k off s ty xs hi hg hb =>
    intro x hr
    cases hr with
    | ptr _ _ _ x hid ho h1 =>
      obtain ⟨B, hρ, rfl⟩ := h1 _ _ _ hg
      obtain ⟨h4, f, h5⟩ := rel_row_cut hs hm hi hg hρ hb
      have := Rel.pin (c := c.cut m) s xs k off B 0 f h4 (fun j a hj => (h5 j a hj).1) (fun j a hj => (h5 j a hj).2)
      rwa [Nat.zero_add] at this
  | @agg l l' hl _ ih =>
    intro x hr
    cases hr with
    | agg _ cs hl' hr =>
      refine .agg _ cs (by omega) fun j a' u ha' hu => ?_
      obtain ⟨a, ha⟩ : ∃ a, l[j]? = some a := ⟨_, List.getElem?_eq_getElem (by rw [← hl]; exact lt_of_get ha')⟩
      exact ih j a a' ha ha' (hr j a u ha hu)
  | @tup l l' hl _ ih =>
    intro x hr
    cases hr with
    | tup _ cs hl' hr =>
      refine .tup _ cs (by omega) fun j a' u ha' hu => ?_
      obtain ⟨a, ha⟩ : ∃ a, l[j]? = some a := ⟨_, List.getElem?_eq_getElem (by rw [← hl]; exact lt_of_get ha')⟩
      exact ih j a a' ha ha' (hr j a u ha hu)
  | @fn f p p' q q' hl hl' _ _ ih1 ih2 =>
    intro x hr
    cases hr with
    | fn _ _ _ vs ws e1 e2 h1 h2 =>
      refine .fn _ _ _ vs ws (by omega) (by omega) (fun j a' u ha' hu => ?_) (fun j a' u ha' hu => ?_)
      · obtain ⟨a, ha⟩ : ∃ a, p[j]? = some a := ⟨_, List.getElem?_eq_getElem (by rw [← hl]; exact lt_of_get ha')⟩
        exact ih1 j a a' ha ha' (h1 j a u ha hu)
      · obtain ⟨a, ha⟩ : ∃ a, q[j]? = some a := ⟨_, List.getElem?_eq_getElem (by rw [← hl']; exact lt_of_get ha')⟩
        exact ih2 j a a' ha ha' (h2 j a u ha hu)

/-! ### results -/

def aResult (P : Program) (s : AS) : ResultVar → Option AV
  | .tmp t => some (s.tm t)
  | .cell a t => aLoad P t (s.tm a) s.h

def aResults (P : Program) (s : AS) (rs : List ResultVar) : Option AV :=
  match rs with
  | [r] => aResult P s r
  | rs => (rs.mapM (aResult P s)).map .tup

/-- a result, as the model takes it -/
def resF (tmps : Array Value) : ResultVar → Sem Value
  | .tmp t => pure (tmps.getD t undef)
  | .cell p t => do loadVar t (← asAddr (tmps.getD p undef))

theorem results_eq (fn : Func) (tmps : Array Value) : results fn tmps = (do let vs ← fn.results.mapM (resF tmps); pure (if h : vs.size = 1 then vs[0] else .tuple vs)) := by
  unfold results
  congr 1

theorem result_sound {P : Program} {N : Nat} {base : Bs × Fence} {c : Cx} (hst : St c) {s : AS} {a : Act} (hr : SR N base c s a) {rv : ResultVar} {r : AV} (h : aResult P s rv = some r) :
    ∃ x, (resF a.tmps rv).run P c.w = .ok x c.w ∧ Rel c r x := by
  cases rv with
  | tmp t => simp only [aResult] at h; cases h; exact ⟨_, rfl, hr.tm t⟩
  | cell p t =>
    simp only [aResult] at h
    rw [← hr.h] at h
    obtain ⟨x, hrun, hx⟩ := aLoad_sound hst h (hr.tm p)
    refine ⟨x, ?_, hx⟩
    rw [← hrun]
    simp only [Instr.loadAt, resF]
    generalize a.tmps.getD p undef = u at hrun
    cases u with
    | pointer o =>
      cases o with
      | some ad => rfl
      | none => simp [Instr.loadAt, Instr.sureAddr] at hrun
    | _ => simp [Instr.loadAt, Instr.sureAddr] at hrun

theorem mapM_results {P : Program} {N : Nat} {base : Bs × Fence} {c : Cx} (hst : St c) {s : AS} {a : Act} (hr : SR N base c s a) : ∀ {rs : List ResultVar} {l : List AV}, rs.mapM (aResult P s) = some l →
    ∃ xs : List Value, (rs.mapM (resF a.tmps)).run P c.w = .ok xs c.w ∧ RelL c l xs.toArray
  | [], l, h => by simp at h; subst h; exact ⟨[], rfl, rfl, fun j a u h => by simp at h⟩
  | rv :: rs, l, h => by
    simp only [List.mapM_cons] at h
    cases h1 : aResult P s rv with
    | none => simp [h1] at h
    | some r =>
      cases h2 : rs.mapM (aResult P s) with
      | none => simp [h1, h2] at h
      | some l' =>
        simp [h1, h2] at h
        subst h
        obtain ⟨x, h3, h4⟩ := result_sound hst hr h1
        obtain ⟨xs, h5, h6⟩ := mapM_results hst hr h2
        refine ⟨x :: xs, by simp only [List.mapM_cons, Sem.run_bind, h3, Result.andThen_ok, h5, Sem.run_pure], by have := h6.1; simpa using this, fun j a u ha hu => ?_⟩
        cases j with
        | zero => simp at ha hu; subst ha; subst hu; exact h4
        | succ j => exact h6.2 j a u (by simpa using ha) (by simpa using hu)

theorem results_sound {P : Program} {N : Nat} {base : Bs × Fence} {c : Cx} (hst : St c) {s : AS} {a : Act} (hr : SR N base c s a) {fn : Func} {r : AV} (h : aResults P s fn.results.toList = some r) : ∃ x, (results fn a.tmps).run P c.w = .ok x c.w ∧ Rel c r x := by
  have hrun : ∀ xs : List Value, (fn.results.toList.mapM (resF a.tmps)).run P c.w = .ok xs c.w →
      (results fn a.tmps).run P c.w = .ok (if h : xs.toArray.size = 1 then xs.toArray[0] else .tuple xs.toArray) c.w := by
    intro xs hx
    rw [results_eq, Array.mapM_eq_mapM_toList]
    simp only [Sem.run_bind, Sem.run_map]
    rw [hx]
    rfl
  unfold aResults at h
  split at h
  · rename_i rv hrs
    obtain ⟨x, h1, h2⟩ := result_sound hst hr h
    refine ⟨x, ?_, h2⟩
    rw [hrun [x] (by rw [hrs]; simp only [List.mapM_cons, List.mapM_nil, Sem.run_bind, h1, Result.andThen_ok, Sem.run_pure])]
    rfl
  · rename_i rs hne
    simp only [Option.map_eq_some_iff] at h
    obtain ⟨l, hl, rfl⟩ := h
    obtain ⟨xs, h1, h2⟩ := mapM_results hst hr hl
    refine ⟨.tuple xs.toArray, ?_, .tup l _ h2.1 h2.2⟩
    rw [hrun xs h1]
    have hne1 : ¬ xs.toArray.size = 1 := by
      intro he
      have h3 : l.length = 1 := by have := h2.1; omega
      have h4 : fn.results.toList.length = l.length := by
        clear h1 h2 hrun hne
        generalize fn.results.toList = rs at hl
        induction rs generalizing l with
        | nil => simp at hl; subst hl; rfl
        | cons rv rs ih =>
          simp only [List.mapM_cons] at hl
          cases h5 : aResult P s rv with
          | none => simp [h5] at hl
          | some r =>
            cases h6 : rs.mapM (aResult P s) with
            | none => simp [h5, h6] at hl
            | some l' =>
              simp [h5, h6] at hl
              subst hl
              simp only [List.length_cons]
              cases l' with
              | nil => cases rs with
                | nil => rfl
                | cons z zs =>
                  simp only [List.mapM_cons] at h6
                  cases h7 : aResult P s z with
                  | none => simp [h7] at h6
                  | some q => cases h8 : zs.mapM (aResult P s) with
                    | none => simp [h7, h8] at h6
                    | some q' => simp [h7, h8] at h6
              | cons z zs => simp at h3
      rw [h3] at h4
      match hq : fn.results.toList with
      | [rv] => exact hne rv hq
      | [] => rw [hq] at h4; simp at h4
      | _ :: _ :: _ => rw [hq] at h4; simp at h4
    rw [dif_neg hne1]

end Go.Proofs.YthkiabcdkhpheaaDoor.Ab

/-
  The abstract program logic: a function's contract out of its body.
-/
set_option linter.unusedVariables false
namespace Go.Proofs.YthkiabcdkhpheaaDoor.Ab

def initTm (args : List AV) : Nat → AV := fun t => args.getD t (.v undef)

/-- how a call ends: what stays of the heap, what is handed back -/
def Leaves (h h' : AH) (r : AV) (Q : AV → AH → Prop) : Prop :=
  (∃ m r', h.length ≤ m ∧ m ≤ h'.length ∧ (h'.take m = h ∨ ∀ (i : Nat) b, (h'.take m)[i]? = some b → h[i]? = some b ∨ b.Below m) ∧ Frz h' m r r' ∧ Q r' (h'.take m)) ∨ Q r h'

/-- what a body owes -/
def BodyQ (P : Program) (rs : List ResultVar) (h : AH) (Q : AOut → AH → Prop) : AExit → AS → Prop
  | .normal, s | .ret, s => ∃ r, aResults P s rs = some r ∧ Leaves h s.h r fun r h' => Q (.ret r) h'
  | .panic x, s => Leaves h s.h x fun r h' => Q (.panic r) h'
  | .exit _, _ => False

theorem leaves_sound {c c' : Cx} {r : AV} {x : Value} {Q : AV → AH → Prop} (hs : St c) (hs' : St c') (hev : Ev c c') (hr : Rel c' r x) (hl : Leaves c.h c'.h r Q) :
    ∃ c2 r', Q r' c2.h ∧ Ev c c2 ∧ St c2 ∧ c2.w = c'.w ∧ Rel c2 r' x := by
  rcases hl with ⟨m, r', h1, h2, h3, h4, h5⟩ | h5
  case inr => exact ⟨c', r, h5, hev, hs', rfl, hr⟩
  refine ⟨c'.cut m, r', h5, hev.cut h1 h2, hs'.cut h2 ?_, rfl, h4.rel hs' h2 hr⟩
  rcases h3 with h3 | h3
  · intro b hb
    have hb' := hb
    rw [h3] at hb'
    obtain ⟨j, hj⟩ := mem_get hb'
    have hm : m = c.h.length := by
      have := congrArg List.length h3
      rw [List.length_take] at this; omega
    rw [hm]
    exact hs.below hj
  · intro b hb
    obtain ⟨i, hi⟩ := mem_get hb
    rcases h3 i b hi with h6 | h6
    · exact AB.Below.mono (hs.below h6) h1
    · exact h6

theorem run_takeDeferred_empty {P : Program} {w : World} {r : Nat} (h : w.heap[r]? = some (.deferred (some []))) : (Instr.takeDeferred r).run P w = .ok [] { w with heap := w.heap.setIfInBounds r (.deferred none) } := by
  simp [Instr.takeDeferred, getObj, setObj, Sem.run, h]

/-- the marks are taken off -/
theorem leavesInM_marks {P : Program} {F : Fence} {n : Nat} {fn : Func} {tmps : Array Value} {R : Ending → World → Prop} {u : FrameMode} (hu : u ≠ .run) {c : Cx} (hs : St c) {base : Nat} : ∀ (Ds : List Nat) (w : World),
    Ds.Nodup → (∀ D ∈ Ds, base ≤ D ∧ w.heap[D]? = some (.deferred (some []))) →
    (∀ w', w'.os = w.os → w'.tape = w.tape → w'.output = w.output → w'.heap.size = w.heap.size → (∀ k, k ∉ Ds → w'.heap[k]? = w.heap[k]?) → LeavesInM F n P fn tmps R [] u w') →
    LeavesInM F n P fn tmps R (Ds.map mkMark) u w
  | [], w, _, _, h => h w rfl rfl rfl rfl fun _ _ => rfl
  | D :: Ds, w, hn, hd, h => by
    have hD := (hd D (by simp)).2
    have hlt := (Array.getElem?_eq_some_iff.1 hD).1
    simp only [List.map_cons, LeavesInM]
    refine ⟨hu, .inl ⟨D, _, rfl, run_takeDeferred_empty hD, ?_⟩⟩
    have hnd := List.nodup_cons.1 hn
    have hold : ∀ k, k ≠ D → ({ w with heap := w.heap.setIfInBounds D (.deferred none) } : World).heap[k]? = w.heap[k]? := fun k hk => by
      show (w.heap.setIfInBounds D _)[k]? = _
      rw [Array.getElem?_setIfInBounds_ne (fun e => hk e.symm)]
    refine leavesInM_marks hu hs (base := base) Ds _ hnd.2 (fun D' hD' => ⟨(hd D' (by simp [hD'])).1, ?_⟩) fun w' h1 h2 h3 h4 h5 => h w' h1 h2 h3 (by simpa using h4) fun k hk => ?_
    · have hne : D' ≠ D := fun e => hnd.1 (e ▸ hD')
      exact (hold D' hne).trans (hd D' (by simp [hD'])).2
    · simp only [List.mem_cons, not_or] at hk
      exact (h5 k hk.2).trans (hold k hk.1)

/-- blocks that nobody owns may turn, if they are no cells -/
theorem Ev.idle {c0 c : Cx} (hs : St c) (hev : Ev c0 c) {w : World} (h1 : w.os = c.w.os) (h2 : w.tape = c.w.tape) (h3 : w.output = c.w.output) (h4 : w.heap.size = c.w.heap.size)
    (h5 : ∀ k, w.heap[k]? = c.w.heap[k]? ∨ (c0.w.heap.size ≤ k ∧ ¬ c.owns k ∧ ∃ o, c.w.heap[k]? = some (.deferred o))) : Ev c0 (c.to w) := by
  refine ⟨h1.trans hev.os, h2.trans hev.tape, h3.trans hev.output, by show _ ≤ w.heap.size; rw [h4]; exact hev.size, hev.len, fun B hB ho => ?_, fun id b hb => ?_, hev.fresh⟩
  · rcases h5 B with h | ⟨h, _⟩
    · exact h.trans (hev.frame B hB ho)
    · omega
  · obtain ⟨b', hb', hk⟩ := hev.kin id b hb
    refine ⟨b', hb', ?_⟩
    cases b with
    | cells ty s xs =>
      rcases hk with e0 | ⟨xs', e1, e2, e3⟩
      · exact .inl e0
      refine .inr ⟨xs', e1, e2, fun B cur hρ hc => ?_⟩
      obtain ⟨cur', h6, h7⟩ := e3 B cur hρ hc
      refine ⟨cur', ?_, h7⟩
      rcases h5 B with h | ⟨_, _, o, h⟩
      · exact h.trans h6
      · rw [h6] at h; cases h
    | grow e s n =>
      rcases hk with ⟨e1, e5⟩ | ⟨n', e1, e2, e3, e4, e5⟩
      · refine .inl ⟨e1, fun B cur hρ hc => ?_⟩
        obtain ⟨cur', fr, h6, h7⟩ := e5 B cur hρ hc
        refine ⟨cur', fr, ?_, h7⟩
        rcases h5 B with h | ⟨_, _, o, h⟩
        · exact h.trans h6
        · rw [h6] at h; cases h
      refine .inr ⟨n', e1, e2, e3, e4, fun B cur hρ hc => ?_⟩
      obtain ⟨cur', h6, h7⟩ := e5 B cur hρ hc
      refine ⟨cur', ?_, h7⟩
      rcases h5 B with h | ⟨_, _, o, h⟩
      · exact h.trans h6
      · rw [h6] at h; cases h
    | map es => exact hk
    | loop i => exact hk
    | iter s p => exact hk
    | glob g cs ty fr => exact hk
    | dead => exact hk
    | gone => exact hk

theorem Rel.idle {c : Cx} {w : World} (hsz : w.heap.size = c.w.heap.size) (h5 : ∀ (k : Nat) cs t fr, c.w.heap[k]? = some (Obj.cells cs t fr) → w.heap[k]? = c.w.heap[k]?) {a : AV} {x : Value} (h : Rel c a x) : Rel (c.to w) a x := by
  have hcell : ∀ {B o : Nat} {u : Value}, c.cellP B o u → (c.to w).cellP B o u := by
    intro B o u hc
    refine ⟨?_, by show B < w.heap.size; rw [hsz]; exact hc.2.1, hc.2.2⟩
    have h1 := hc.1
    cases hb : c.w.heap[B]? with
    | none => simp [World.cell?, hb] at h1
    | some o' =>
      cases o' with
      | cells cs t fr => exact (World.cell?_of_block (w := c.w) (a := ⟨B, o, none⟩) (h5 B cs t fr hb)).trans h1
      | _ => simp [World.cell?, hb] at h1
  induction h with
  | v x => exact .v x
  | junk x => exact .junk x
  | agg l cs hl _ ih => exact .agg l cs hl ih
  | tup l cs hl _ ih => exact .tup l cs hl ih
  | slnil s own ht => exact .slnil s own ht
  | slzero s own ba ht => exact .slzero s own ba ht
  | sl s xs own B o cap f hs' hcap hmax hc _ ht ih =>
    refine .sl s xs own B o cap f hs' hcap hmax (fun j a hj => ⟨hcell (hc j a hj).1, (hc j a hj).2⟩) ih fun b hb => ⟨(ht b hb).1, fun e s' n hg => ?_⟩
    obtain ⟨h1, h2, h3⟩ := (ht b hb).2 e s' n hg
    refine ⟨h1, h2, fun he => ?_⟩
    obtain ⟨h6, h7, h8, h9, cur, h10, h11⟩ := h3 he
    exact ⟨h6, h7, h8, h9, cur, (h5 B _ _ _ h10).trans h10, h11⟩
  | pin s xs k off B o f hs' hc _ ih => exact .pin s xs k off B o f hs' (fun j a hj => ⟨hcell (hc j a hj).1, (hc j a hj).2⟩) ih
  | ptr id k off x hid ho h1 => exact .ptr id k off x hid ho h1
  | arr id lo len x hid ho h1 =>
    refine .arr id lo len x hid ho fun ty s xs hb => ?_
    obtain ⟨B, cap, h2, h3, h4, h6, cur, h7, h8⟩ := h1 ty s xs hb
    exact ⟨B, cap, h2, h3, h4, h6, cur, (h5 B _ _ _ h7).trans h7, h8⟩
  | row id lo len cap x hid ho h1 =>
    refine .row id lo len cap x hid ho fun ty s xs hb => ?_
    obtain ⟨B, cur, h2, h3, h4, h6, h7, h8⟩ := h1 ty s xs hb
    exact ⟨B, cur, h2, h3, h4, h6, (h5 B _ _ _ h7).trans h7, h8⟩
  | mp id x hid ho h1 => exact .mp id x hid ho h1
  | fn f first cap vs ws e1 e2 _ _ ih1 ih2 => exact .fn f first cap vs ws e1 e2 ih1 ih2
  | ifc t a u _ ih => exact .ifc t a u ih
  | spt s xs own p n k _ ih => exact .spt s xs own p n k ih

theorem St.idle {c : Cx} (hs : St c) {w : World} (hsz : w.heap.size = c.w.heap.size) (h5 : ∀ (k : Nat) (o : Obj), c.w.heap[k]? = some o → (w.heap[k]? = some o ∨ ∃ d, o = Obj.deferred d)) : St (c.to w) := by
  have hc : ∀ (k : Nat) cs t fr, c.w.heap[k]? = some (Obj.cells cs t fr) → w.heap[k]? = c.w.heap[k]? := fun k cs t fr h => by
    rcases h5 k _ h with h' | ⟨d, h'⟩
    · rw [h, h']
    · cases h'
  have hm : ∀ (k : Nat) es n, c.w.heap[k]? = some (Obj.map es n) → w.heap[k]? = c.w.heap[k]? := fun k es n h => by
    rcases h5 k _ h with h' | ⟨d, h'⟩
    · rw [h, h']
    · cases h'
  refine ⟨fun id b hb => ?_, hs.inj⟩
  have h0 := hs.blocks id b hb
  cases b with
  | cells ty s xs =>
    obtain ⟨B, cur, h1, h2, h3, h4⟩ := h0
    exact ⟨B, cur, h1, (hc B _ _ _ h2).trans h2, h3, fun j a hj => let ⟨u, h6, h7, h8⟩ := h4 j a hj; ⟨u, h6, h7, h8.idle hsz hc⟩⟩
  | grow e s n => exact fun B hB => let ⟨cur, h1, h2⟩ := h0 B hB; ⟨cur, (hc B _ _ _ h1).trans h1, h2⟩
  | map es =>
    obtain ⟨B, ents, clock, h1, h2, h3, h4⟩ := h0
    exact ⟨B, ents, clock, h1, (hm B _ _ h2).trans h2, h3, fun j kv e hj he => ⟨(h4 j kv e hj he).1, (h4 j kv e hj he).2.idle hsz hc⟩⟩
  | loop i =>
    obtain ⟨B, r, h1, h2, h3, h4⟩ := h0
    have hl : w.heap[B]? = c.w.heap[B]? := by
      rcases h5 B _ h2 with h' | ⟨d, h'⟩
      · rw [h2, h']
      · cases h'
    exact ⟨B, r, h1, hl.trans h2, h3, fun t => (h4 t).idle hsz hc⟩
  | iter s p =>
    obtain ⟨B, h1, h2⟩ := h0
    refine ⟨B, h1, ?_⟩
    rcases h5 B _ h2 with h' | ⟨d, h'⟩
    · exact h'
    · cases h'
  | glob g cs ty fr =>
    obtain ⟨h1, h2⟩ := h0
    exact ⟨h1, (hc g _ _ _ h2).trans h2⟩
  | dead => trivial
  | gone => trivial

theorem callsIn_plain {F : Fence} {n : Nat} {P : Program} {f : FuncId} {args : Array Value} {w : World} {R : Ending → World → Prop} (h : CallsIn F.plain n P f args w R) : CallsIn F n P f args w R := h

theorem callW_of_body {P : Program} {f : FuncId} {fn : Func} {code : Code} {args : List AV} {h : AH} {Q : AOut → AH → Prop} (hf : P.funcs[f]? = some fn) (hb : fn.body = some code)
    (hcall : ∀ vals w, (callFunc f vals).run P w = .ok (.enter f vals) w) {N : Nat} (hN : fn.ntmps = N) {rs : List ResultVar} (hrs : fn.results.toList = rs) (hn : args.length ≤ N) (H : CodeW P N code (BodyQ P rs h Q) ⟨initTm args, h⟩) : CallW P f args h Q := by
  subst hN
  subst hrs
  refine ⟨hcall, fun F n c vals hF hs hh hvals => callsIn_plain ?_⟩
  subst hh
  refine callsIn_of_wp_marks hf hb (hF.plain.fn f) ?_
  have hsr : SR fn.ntmps (⟨c.w.heap.size, []⟩, F.plain) c ⟨initTm args, c.h⟩ { tmps := vals ++ Array.replicate (fn.ntmps - vals.size) undef, defers := [] } := by
    refine ⟨rfl, by have := hvals.1; simp; omega, Nat.le_refl _, ⟨[], rfl, List.nodup_nil, fun D h => by cases h⟩, (fun l hl => by cases hl), fun t => ?_⟩
    simp only [initTm]
    rw [Array.getD_eq_getD_getElem?, Array.getElem?_append, List.getD_eq_getElem?_getD]
    have hsz := hvals.1
    by_cases ht : t < vals.size
    · rw [if_pos ht]
      obtain ⟨u, hu⟩ : ∃ u, vals[t]? = some u := ⟨_, Array.getElem?_eq_getElem ht⟩
      obtain ⟨a, ha⟩ : ∃ a, args[t]? = some a := ⟨_, List.getElem?_eq_getElem (by omega)⟩
      rw [hu, ha]
      exact hvals.2 t a u ha hu
    · rw [if_neg ht, List.getElem?_eq_none (by omega), Array.getElem?_replicate]
      split
      · exact .v _
      · exact .v _
  refine H F.plain n ⟨c.w.heap.size, []⟩ c _ hF.plain hs hsr _ ?_
  intro e s' c' a' e' hQ hev hst hr hex
  -- the end, whichever way
  have fin : ∀ (u : FrameMode), u ≠ .run → (∀ (c2 : Cx), Ev c c2 → St c2 → c2.h = c'.h → (∀ a x, Rel c' a x → Rel c2 a x) → SR fn.ntmps (⟨0, []⟩, F.plain) c2 s' { a' with defers := [] } →
      LeavesInM F.plain n P fn a'.tmps (fun e w' => ∃ o c', Q o c'.h ∧ Ev c c' ∧ St c' ∧ c'.w = w' ∧ EndC c' o e) [] u c2.w) →
      LeavesInM F.plain n P fn a'.tmps (fun e w' => ∃ o c', Q o c'.h ∧ Ev c c' ∧ St c' ∧ c'.w = w' ∧ EndC c' o e) a'.defers u c'.w := by
    intro u hu hfin
    obtain ⟨Ds, e1, hnd, hall⟩ := hr.defers
    rw [e1, List.append_nil]
    refine leavesInM_marks hu hst (base := c.w.heap.size) Ds c'.w hnd (fun D hD => ⟨(hall D hD).1, (hall D hD).2.1⟩) ?_
    intro w' h1 h2 h3 h4 h5
    have hidle : ∀ k, w'.heap[k]? = c'.w.heap[k]? ∨ (c.w.heap.size ≤ k ∧ ¬ c'.owns k ∧ ∃ o, c'.w.heap[k]? = some (.deferred o)) := by
      intro k
      by_cases hk : k ∈ Ds
      · exact .inr ⟨(hall k hk).1, (hall k hk).2.2, _, (hall k hk).2.1⟩
      · exact .inl (h5 k hk)
    have hcells : ∀ (k : Nat) cs t fr, c'.w.heap[k]? = some (Obj.cells cs t fr) → w'.heap[k]? = c'.w.heap[k]? := fun k cs t fr hk => by
      rcases hidle k with h | ⟨_, _, o, h⟩
      · exact h
      · rw [hk] at h; cases h
    have hst2 : St (c'.to w') := hst.idle h4 fun k o hk => by
      rcases hidle k with h | ⟨_, _, d, h⟩
      · exact .inl (h.trans hk)
      · rw [hk] at h; cases h; exact .inr ⟨d, rfl⟩
    have hrel : ∀ a x, Rel c' a x → Rel (c'.to w') a x := fun a x hax => hax.idle h4 hcells
    exact hfin (c'.to w') (Ev.idle hst hev h1 h2 h3 h4 hidle) hst2 rfl hrel ⟨hr.h, hr.size, Nat.zero_le _, ⟨[], rfl, List.nodup_nil, fun D h => by cases h⟩, (fun l hl => by cases hl), fun t => hrel _ _ (hr.tm t)⟩
  cases e with
  | normal =>
    cases hex
    obtain ⟨r, hres, hl⟩ := hQ
    refine fin .returning (by simp) fun c2 hev2 hst2 hh2 hrel2 hsr2 => ?_
    obtain ⟨x, hrun, hx⟩ := results_sound hst2 hsr2 hres
    rw [← hr.h, ← hh2] at hl
    obtain ⟨c3, r', h1, h2, h3, h4, h5⟩ := leaves_sound hs hst2 hev2 hx hl
    exact ⟨x, hrun, .ret r', c3, h1, h2, h3, h4, x, rfl, h5⟩
  | ret =>
    cases hex
    obtain ⟨r, hres, hl⟩ := hQ
    refine fin .returning (by simp) fun c2 hev2 hst2 hh2 hrel2 hsr2 => ?_
    obtain ⟨x, hrun, hx⟩ := results_sound hst2 hsr2 hres
    rw [← hr.h, ← hh2] at hl
    obtain ⟨c3, r', h1, h2, h3, h4, h5⟩ := leaves_sound hs hst2 hev2 hx hl
    exact ⟨x, hrun, .ret r', c3, h1, h2, h3, h4, x, rfl, h5⟩
  | panic av =>
    obtain ⟨x, rfl, hx⟩ := hex
    refine fin (.panicking [{ v := x, recovered := false }]) (by simp) fun c2 hev2 hst2 hh2 hrel2 hsr2 => ?_
    have hl : Leaves c.h s'.h av fun r h' => Q (.panic r) h' := hQ
    rw [← hr.h, ← hh2] at hl
    obtain ⟨c3, r', h1, h2, h3, h4, h5⟩ := leaves_sound hs hst2 hev2 (hrel2 _ _ hx) hl
    exact ⟨.panic r', c3, h1, h2, h3, h4, x, rfl, h5⟩
  | exit id => exact hQ.elim

end Go.Proofs.YthkiabcdkhpheaaDoor.Ab
