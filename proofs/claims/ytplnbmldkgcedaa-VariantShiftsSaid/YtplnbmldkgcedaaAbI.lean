/-
  The abstract program logic: len, parts of slices, comparisons, maps, parts of structs.
-/
import Derived.Test.YtplnbmldkgcedaaAbH
import Derived.Laws.Slices
set_option linter.unusedVariables false
set_option maxHeartbeats 4000000
namespace Go.Proofs.Ytplnbmldkgcedaa.Ab

/-! ### len -/

def aLen (P : Program) (t ty : TypeId) (x : AV) (h : AH) : Option AV :=
  match x with
  | .v a => (pv P (Builtin.len_ #[t] ty #[a])).map .v
  | .sl _ xs _ => match P.underlying t with
    | some (.slice _) => some (.v (goInt xs.length))
    | _ => none
  | .arr id _ len => match P.underlying t, h[id]? with
    | some (.slice _), some (.cells _ _ _) => some (.v (goInt len))
    | _, _ => none
  | .mp id => match P.underlying t, h[id]? with
    | some (.map _ _), some (.map es) => some (.v (goInt es.length))
    | _, _ => none
  | _ => none

theorem run_getObj_map {P : Program} {w : World} {r : Nat} {es : Array MapEntry} {k : Nat} (h : w.heap[r]? = some (.map es k)) : (getObj r).run P w = .ok (.map es k) w := by
  simp [getObj, Sem.run, h]

theorem len_sound {P : Program} {c : Cx} (hst : St c) {t ty : TypeId} {x r : AV} {u : Value} (ha : aLen P t ty x c.h = some r) (hx : Rel c x u) :
    ∃ y, (Builtin.len_ #[t] ty #[u]).run P c.w = .ok y c.w ∧ Rel c r y := by
  cases hx with
  | v u =>
    simp only [aLen] at ha
    cases hp : pv P (Builtin.len_ #[t] ty #[u]) with
    | none => simp [hp] at ha
    | some y => simp [hp] at ha; subst ha; exact ⟨y, pv_run hp _, .v y⟩
  | slnil s own ht =>
    simp only [aLen] at ha
    split at ha
    · rename_i hu; cases ha; exact ⟨_, by simp [Builtin.len_, underlying, hu], .v _⟩
    · cases ha
  | slzero s own ba ht =>
    simp only [aLen] at ha
    split at ha
    · rename_i hu; cases ha; exact ⟨_, by simp [Builtin.len_, underlying, hu], .v _⟩
    · cases ha
  | sl s xs own B o cap f hs hcap hmax hc hr ht =>
    simp only [aLen] at ha
    split at ha
    · rename_i hu; cases ha; exact ⟨_, by simp [Builtin.len_, underlying, hu], .v _⟩
    · cases ha
  | arr id lo len x hid ho h1 =>
    simp only [aLen] at ha
    split at ha
    · rename_i e ty' s xs hu hb
      cases ha
      obtain ⟨B, cap, _, rfl, _⟩ := h1 _ _ _ hb
      exact ⟨_, by simp [Builtin.len_, underlying, hu], .v _⟩
    · cases ha
  | mp id x hid ho h1 =>
    simp only [aLen] at ha
    split at ha
    · rename_i k e es hu hb
      cases ha
      obtain ⟨B, hρ, rfl⟩ := h1.1 _ hb
      obtain ⟨B', ents, clock, h2, h3, h4, _⟩ := hst.blocks id _ hb
      rw [hρ] at h2; cases h2
      exact ⟨_, by simp [Builtin.len_, underlying, hu, run_getObj_map h3]; rfl, by rw [h4]; exact .v _⟩
    · cases ha
  | _ => simp [aLen] at ha

/-! ### a part of a slice -/

def boundOf (d : Nat) : Option AV → Option Int
  | none => some d
  | some (.v (.int _ n)) => some n
  | some _ => none

def aSlice (P : Program) (t : TypeId) (x : AV) (lo hi : Option AV) (h : AH) : Option AV :=
  match elemInfo P t with
  | some (_, n) =>
    match x with
    | .v (.slice none 0 0) => match boundOf 0 lo, boundOf 0 hi with
      | some l, some k => if l = 0 ∧ k = 0 then some (.v (.slice none 0 0)) else none
      | _, _ => none
    | .sl s xs own => match boundOf 0 lo, boundOf xs.length hi with
      | some l, some k => if s = n ∧ 0 ≤ l ∧ l ≤ k ∧ k ≤ xs.length then
          (if l = 0 ∧ k = xs.length then some (.sl s xs own) else some (.sl s ((xs.drop l.toNat).take (k - l).toNat) none)) else none
      | _, _ => none
    | .arr id b len => match h[id]? with
      | some (.cells _ s _) => match boundOf 0 lo, boundOf len hi with
        | some l, some k => if s = n ∧ 0 ≤ l ∧ l ≤ k ∧ k ≤ len then (if l < k then some (.arr id (b + l.toNat) (k - l).toNat) else some (.sl s [] none)) else none
        | _, _ => none
      | _ => none
    | _ => none
  | none =>
    match x with
    | .v a =>
      match lo, hi with
      | none, none => (pv P (Instr.sliceAt t a none none none)).map .v
      | some (.v l), none => (pv P (Instr.sliceAt t a (some l) none none)).map .v
      | none, some (.v k) => (pv P (Instr.sliceAt t a none (some k) none)).map .v
      | some (.v l), some (.v k) => (pv P (Instr.sliceAt t a (some l) (some k) none)).map .v
      | _, _ => none
    | _ => none

/-- an optional operand -/
def RelO (c : Cx) : Option AV → Option Value → Prop
  | none, none => True
  | some a, some u => Rel c a u
  | _, _ => False

theorem run_slice_bounds {P : Program} {w : World} {c : Cx} {t e : TypeId} {n : Nat} (hu : P.underlying t = some (.slice e)) (hsz : ∀ w, (sizeOf e).run P w = .ok n w) (a : Option Addr) (len cap : Nat) {lo hi : Option AV} {ul uh : Option Value}
    (hl : RelO c lo ul) (hh : RelO c hi uh) {l k : Int} (h1 : boundOf 0 lo = some l) (h2 : boundOf len hi = some k) (h0 : 0 ≤ l) (hlk : l ≤ k) (hk : k ≤ len) (hlc : len ≤ cap) :
    (Instr.sliceAt t (.slice a len cap) ul uh none).run P w = .ok (sliced a l.toNat k.toNat cap n) w := by
  have hk0 : 0 ≤ k := by omega
  have hkc : k ≤ cap := by omega
  have hlk' : l ≤ (k.toNat : Int) := by omega
  have bl : (match ul with | some v => Instr.sliceBound v k.toNat .sliceB | none => (pure 0 : Sem Nat)).run P w = .ok l.toNat w := by
    cases lo with
    | none => cases ul with
      | none => simp only [boundOf, Option.some.injEq] at h1; subst h1; rfl
      | some u => exact hl.elim
    | some a => cases ul with
      | none => exact hl.elim
      | some u =>
        cases a with
        | v x =>
          cases hl
          cases u with
          | int q m => simp only [boundOf, Option.some.injEq] at h1; subst h1; exact run_sliceBound w q _ _ _ h0 hlk'
          | _ => simp [boundOf] at h1
        | _ => simp [boundOf] at h1
  have bh : (match uh with | some v => Instr.sliceBound v cap .sliceAcap | none => (pure len : Sem Nat)).run P w = .ok k.toNat w := by
    cases hi with
    | none => cases uh with
      | none => simp only [boundOf, Option.some.injEq] at h2; subst h2; rfl
      | some u => exact hh.elim
    | some a => cases uh with
      | none => exact hh.elim
      | some u =>
        cases a with
        | v x =>
          cases hh
          cases u with
          | int q m => simp only [boundOf, Option.some.injEq] at h2; subst h2; exact run_sliceBound w q _ _ _ hk0 hkc
          | _ => simp [boundOf] at h2
        | _ => simp [boundOf] at h2
  simp only [Instr.sliceAt, Instr.slice, Sem.run_bind, underlying, run_program, Result.andThen_ok, hu, Sem.run_pure, Instr.sliceBounds]
  cases ul <;> cases uh <;> simp_all [sliced]

theorem slice_sound {P : Program} {c : Cx} (hst : St c) {t : TypeId} {x r : AV} {lo hi : Option AV} {u : Value} {ul uh : Option Value} (ha : aSlice P t x lo hi c.h = some r) (hx : Rel c x u) (hl : RelO c lo ul) (hh : RelO c hi uh) :
    ∃ y, (Instr.sliceAt t u ul uh none).run P c.w = .ok y c.w ∧ Rel c r y := by
  unfold aSlice at ha
  cases he : elemInfo P t with
  | none =>
    simp only [he] at ha
    cases hx with
    | v u =>
      simp only at ha
      split at ha
      · cases ul <;> cases uh <;> first | exact hl.elim | exact hh.elim | skip
        cases hp : pv P (Instr.sliceAt t u none none none) with
        | none => simp [hp] at ha
        | some y => simp [hp] at ha; subst ha; exact ⟨y, pv_run hp _, .v y⟩
      · rename_i l
        cases ul <;> cases uh <;> first | exact hl.elim | exact hh.elim | skip
        cases hl
        cases hp : pv P (Instr.sliceAt t u (some l) none none) with
        | none => simp [hp] at ha
        | some y => simp [hp] at ha; subst ha; exact ⟨y, pv_run hp _, .v y⟩
      · rename_i l
        cases ul <;> cases uh <;> first | exact hl.elim | exact hh.elim | skip
        cases hh
        cases hp : pv P (Instr.sliceAt t u none (some l) none) with
        | none => simp [hp] at ha
        | some y => simp [hp] at ha; subst ha; exact ⟨y, pv_run hp _, .v y⟩
      · rename_i l k
        cases ul <;> cases uh <;> first | exact hl.elim | exact hh.elim | skip
        cases hl; cases hh
        cases hp : pv P (Instr.sliceAt t u (some l) (some k) none) with
        | none => simp [hp] at ha
        | some y => simp [hp] at ha; subst ha; exact ⟨y, pv_run hp _, .v y⟩
      · cases ha
    | _ => simp at ha
  | some en =>
    obtain ⟨e, n⟩ := en
    obtain ⟨hu, hsz⟩ := elemInfo_run he
    simp only [he] at ha
    cases hx with
    | v u =>
      split at ha
      · rename_i heq
        cases heq
        split at ha
        · rename_i l k h1 h2
          split at ha
          · rename_i hz
            obtain ⟨rfl, rfl⟩ := hz
            cases ha
            refine ⟨_, run_slice_bounds hu hsz none 0 0 hl hh h1 h2 (by omega) (by omega) (by omega) (by omega), ?_⟩
            simp [sliced]; exact .v _
          · cases ha
        · cases ha
      all_goals (first | cases ha | simp_all)
    | slnil s own ht =>
      simp only at ha
      split at ha
      · rename_i l k h1 h2
        split at ha
        · rename_i hz
          obtain ⟨rfl, h3, h4, h5⟩ := hz
          simp only [List.length_nil] at h2 h5 ha
          have hl0 : l = 0 := by simp at h5; omega
          have hk0 : k = 0 := by simp at h5; omega
          subst hl0; subst hk0
          have hrun := run_slice_bounds (w := c.w) hu hsz none 0 0 hl hh h1 h2 (by omega) (by omega) (by omega) (by omega)
          simp at ha
          subst ha
          exact ⟨_, hrun, by simp [sliced]; exact .slnil _ _ ht⟩
        · cases ha
      · cases ha
    | slzero s own ba ht =>
      simp only at ha
      split at ha
      · rename_i l k h1 h2
        split at ha
        · rename_i hz
          obtain ⟨rfl, h3, h4, h5⟩ := hz
          simp only [List.length_nil] at h2 h5 ha
          have hl0 : l = 0 := by simp at h5; omega
          have hk0 : k = 0 := by simp at h5; omega
          subst hl0; subst hk0
          have hrun := run_slice_bounds (w := c.w) hu hsz (some ba) 0 0 hl hh h1 h2 (by omega) (by omega) (by omega) (by omega)
          simp at ha
          subst ha
          exact ⟨_, hrun, by simp [sliced]; exact .slzero _ _ _ ht⟩
        · cases ha
      · cases ha
    | sl s xs own B o cap f hs hcap hmax hc hr ht =>
      simp only at ha
      split at ha
      · rename_i l k h1 h2
        split at ha
        · rename_i hz
          obtain ⟨rfl, h3, h4, h5⟩ := hz
          have hrun := run_slice_bounds (w := c.w) hu hsz (some ⟨B, o, none⟩) xs.length cap hl hh h1 h2 h3 h4 h5 hcap
          split at ha
          · rename_i h6
            obtain ⟨rfl, rfl⟩ := h6
            cases ha
            refine ⟨_, hrun, ?_⟩
            have : sliced (some ⟨B, o, none⟩) (0 : Int).toNat ((xs.length : Nat) : Int).toNat cap s = .slice (some ⟨B, o, none⟩) xs.length cap := by
              simp [sliced, Addr.add]
            rw [this]
            exact .sl s xs own B o cap f hs hcap hmax hc hr ht
          · cases ha
            refine ⟨_, hrun, ?_⟩
            have hlen : ((xs.drop l.toNat).take (k - l).toNat).length = k.toNat - l.toNat := by simp; omega
            have hin : ∀ y ∈ (xs.drop l.toNat).take (k - l).toNat, y.cells.length = s := fun y hy => hs y (List.mem_of_mem_drop (List.mem_of_mem_take hy))
            have hdrop : ∀ y ∈ xs.drop l.toNat, y.cells.length = s := fun y hy => hs y (List.mem_of_mem_drop hy)
            by_cases hcl : cap = l.toNat
            · have hnil : (xs.drop l.toNat).take (k - l).toNat = [] := by apply List.eq_nil_of_length_eq_zero; omega
              rw [hnil]
              have : sliced (some ⟨B, o, none⟩) l.toNat k.toNat cap s = .slice (some ⟨B, o, none⟩) ([] : List AV).length (cap - l.toNat) := by
                simp only [sliced, hcl, if_true, List.length_nil]
                congr 1; omega
              rw [this]
              exact .sl s [] none B o _ (fun _ => undef) (by simp) (Nat.zero_le _) (by omega) (by simp [flat]) (by simp [flat]) (fun b hb => by cases hb)
            · have : sliced (some ⟨B, o, none⟩) l.toNat k.toNat cap s = .slice (some ⟨B, o + l.toNat * s, none⟩) ((xs.drop l.toNat).take (k - l).toNat).length (cap - l.toNat) := by
                simp only [sliced, hcl, if_false, Option.map_some, addr_add, hlen]
              rw [this]
              have hget : ∀ (j : Nat) a, (flat ((xs.drop l.toNat).take (k - l).toNat))[j]? = some a → (flat xs)[l.toNat * s + j]? = some a := by
                intro j a hj
                rw [flat_take hdrop (by simp; omega)] at hj
                have hlt := lt_of_get hj
                rw [List.length_take] at hlt
                rw [List.getElem?_take_of_lt (by omega), flat_drop hs (by omega), List.getElem?_drop] at hj
                exact hj
              refine .sl s _ none B (o + l.toNat * s) _ (fun j => f (l.toNat * s + j)) hin (by omega) (by omega) ?_ ?_ (fun b hb => by cases hb)
              · intro j a hj
                have := hc _ a (hget j a hj)
                rwa [← Nat.add_assoc] at this
              · intro j a hj
                exact hr _ a (hget j a hj)
        · cases ha
      · cases ha
    | arr id b len x hid ho h1 =>
      simp only at ha
      split at ha
      · rename_i ty s xs hb
        split at ha
        · rename_i l k h2 h3
          split at ha
          · rename_i hz
            obtain ⟨rfl, h4, h5, h6⟩ := hz
            obtain ⟨B, cap, hρ, rfl, hlc, hmax⟩ := h1 _ _ _ hb
            have hrun := run_slice_bounds (w := c.w) hu hsz (some ⟨B, b * s, none⟩) len cap hl hh h2 h3 h4 h5 h6 hlc
            split at ha
            · rename_i hlt
              cases ha
              refine ⟨_, hrun, .arr id _ _ _ hid rfl ?_⟩
              intro ty' s' xs' hb'
              rw [hb] at hb'; cases hb'
              refine ⟨B, cap - l.toNat, hρ, ?_, by omega, by omega⟩
              have hcl : ¬ cap = l.toNat := by omega
              simp only [sliced, hcl, if_false, Option.map_some, addr_add]
              rw [show k.toNat - l.toNat = (k - l).toNat by omega, ← Nat.add_mul]
            · cases ha
              refine ⟨_, hrun, ?_⟩
              have e : k.toNat - l.toNat = ([] : List AV).length := by simp; omega
              simp only [sliced, e, Option.map_some, addr_add]
              split
              · exact .sl s [] none B _ _ (fun _ => undef) (by simp) (Nat.zero_le _) (by omega) (by simp [flat]) (by simp [flat]) (fun b hb => by cases hb)
              · exact .sl s [] none B _ _ (fun _ => undef) (by simp) (Nat.zero_le _) (by omega) (by simp [flat]) (by simp [flat]) (fun b hb => by cases hb)
          · cases ha
        · cases ha
      · cases ha
    | _ => simp at ha


def slicy (h : AH) : AV → Bool
  | .v (.slice none 0 0) | .sl .. => true
  | .arr id _ _ => match h[id]? with | some (.cells ..) => true | _ => false
  | _ => false

/-- x[:0:0] -/
def aSlice0 (P : Program) (t : TypeId) (x : AV) (lo hi mx : Option AV) (h : AH) : Option (AV × AH) :=
  match elemInfo P t with
  | some (e, n) =>
    if boundOf 0 lo = some 0 ∧ boundOf 1 hi = some 0 ∧ boundOf 1 mx = some 0 ∧ slicy h x = true then some (.sl n [] (some h.length), h ++ [.dead]) else none
  | none => none

theorem bound_zero {c : Cx} {d : Nat} (hd : d ≠ 0) {a : Option AV} {u : Option Value} (hr : RelO c a u) (h : boundOf d a = some 0) : ∃ q, u = some (.int q 0) := by
  cases a with
  | none => simp [boundOf] at h; omega
  | some a =>
    cases u with
    | none => exact hr.elim
    | some u =>
      cases a with
      | v x =>
        cases hr
        cases u with
        | int q m => simp only [boundOf, Option.some.injEq] at h; subst h; exact ⟨q, rfl⟩
        | _ => simp [boundOf] at h
      | _ => simp [boundOf] at h

theorem slice0_sound {P : Program} {c : Cx} (hst : St c) {t : TypeId} {x r : AV} {lo hi mx : Option AV} {h' : AH} {u : Value} {ul uh um : Option Value} (ha : aSlice0 P t x lo hi mx c.h = some (r, h')) (hx : Rel c x u) (hl : RelO c lo ul) (hh : RelO c hi uh) (hm : RelO c mx um) :
    ∃ y c', (Instr.sliceAt t u ul uh um).run P c.w = .ok y c'.w ∧ Ev c c' ∧ St c' ∧ c'.h = h' ∧ Rel c' r y := by
  unfold aSlice0 at ha
  cases he : elemInfo P t with
  | none => simp [he] at ha
  | some en =>
    obtain ⟨e, n⟩ := en
    obtain ⟨hu, hsz⟩ := elemInfo_run he
    simp only [he] at ha
    split at ha
    · rename_i hc
      obtain ⟨h1, h2, h3, h4⟩ := hc
      cases ha
      obtain ⟨q2, rfl⟩ := bound_zero (by omega) hh h2
      obtain ⟨q3, rfl⟩ := bound_zero (by omega) hm h3
      -- how it runs
      have hrun : ∀ (a : Option Addr) (len cap : Nat), (Instr.sliceAt t (.slice a len cap) ul (some (.int q2 0)) (some (.int q3 0))).run P c.w = .ok (.slice a 0 0) c.w := by
        intro a len cap
        have hb : ∀ (q : IntKind) (k : Nat) (cd : BoundsCode), (Instr.sliceBound (.int q 0) k cd).run P c.w = .ok 0 c.w := fun q k cd => run_sliceBound c.w q 0 k cd (by omega) (by omega)
        have bl : (match ul with | some v => Instr.sliceBound v 0 .slice3C | none => (pure 0 : Sem Nat)).run P c.w = .ok 0 c.w := by
          cases lo with
          | none => cases ul with
            | none => rfl
            | some u => exact hl.elim
          | some a => cases ul with
            | none => exact hl.elim
            | some u =>
              cases a with
              | v x =>
                cases hl
                cases u with
                | int q m => simp only [boundOf, Option.some.injEq] at h1; subst h1; exact hb _ _ _
                | _ => simp [boundOf] at h1
              | _ => simp [boundOf] at h1
        simp only [Instr.sliceAt, Instr.slice, Sem.run_bind, underlying, run_program, Result.andThen_ok, hu, Sem.run_pure, Instr.sliceBounds]
        cases ul <;> simp_all
      have hg := Grows.refl c.w
      have ho : ∀ B, (none : Option Nat) = some B → c.w.heap.size ≤ B := fun B h => by cases h
      have hρ : (c.add c.w (.dead) none).ρ c.h.length = none := by simp [Cx.add]
      have hst' : St (c.add c.w (.dead) none) := St.add hst hg _ _ ho trivial
      have htok : ∀ b, some c.h.length = some b → (c.add c.w (.dead) none).tokNil b n := by
        intro b hb
        cases hb
        refine ⟨by simp [Cx.add], fun e2 s2 n2 hg2 => ?_⟩
        simp [Cx.add] at hg2
      have fin : ∀ y : Value, (∃ a len cap, u = .slice a len cap ∧ y = .slice a 0 0) → Rel (c.add c.w (.dead) none) (.sl n [] (some c.h.length)) y →
          ∃ y c', (Instr.sliceAt t u ul (some (.int q2 0)) (some (.int q3 0))).run P c.w = .ok y c'.w ∧ Ev c c' ∧ St c' ∧ c'.h = c.h ++ [.dead] ∧ Rel c' (.sl n [] (some c.h.length)) y := by
        rintro y ⟨a, len, cap, rfl, rfl⟩ hr
        exact ⟨_, c.add c.w (.dead) none, hrun a len cap, Ev.add hst hg _ _ ho, hst', rfl, hr⟩
      cases hx with
      | v u =>
        have : u = .slice none 0 0 := by
          unfold slicy at h4
          split at h4 <;> simp_all
        subst this
        exact fin _ ⟨_, _, _, rfl, rfl⟩ (.slnil _ _ htok)
      | slnil s own ht => exact fin _ ⟨_, _, _, rfl, rfl⟩ (.slnil _ _ htok)
      | slzero s own ba ht => exact fin _ ⟨_, _, _, rfl, rfl⟩ (.slzero _ _ _ htok)
      | sl s xs own B o cap f hs hcap hmax hc hr ht => exact fin _ ⟨_, _, _, rfl, rfl⟩ (.slzero _ _ _ htok)
      | arr id lo len x hid ho' h5 =>
        simp only [slicy] at h4
        split at h4
        · rename_i hb
          obtain ⟨B, cap, hρ', rfl, _⟩ := h5 _ _ _ hb
          exact fin _ ⟨_, _, _, rfl, rfl⟩ (.slzero _ _ _ htok)
        · cases h4
      | _ => simp [slicy] at h4
    · cases ha

end Go.Proofs.Ytplnbmldkgcedaa.Ab
