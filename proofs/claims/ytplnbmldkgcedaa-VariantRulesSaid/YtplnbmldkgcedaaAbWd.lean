/-
  What a visitor of numbers is.
-/
import Derived.Test.YtplnbmldkgcedaaAbWc
set_option linter.unusedSimpArgs false
set_option linter.unusedVariables false
set_option maxHeartbeats 4000000
set_option maxRecDepth 4000
namespace Go.Proofs.Ytplnbmldkgcedaa.Ab
open Go.Proofs

/-! a visitor of numbers, with a state in the heap -/
def Vis (P : Program) {σ : Type} (fv : AV) (H : σ → AH) (g : σ → Int → Int × σ) (I : σ → Int → Prop) : Prop :=
  ∀ s n L, I s n → FunW P fv [.i n] (H s ++ L) fun o h' => o = .ret (.i (g s n).1) ∧ h' = H (g s n).2 ++ L

theorem funW_vis {P : Program} {σ : Type} {fv : AV} {H : σ → AH} {g : σ → Int → Int × σ} {I : σ → Int → Prop} (hv : Vis P fv H g I) {s : σ} {n : Int} (hi : I s n) {L : AH} {C : AOut → AH → Prop}
    (k : C (.ret (.i (g s n).1)) (H (g s n).2 ++ L)) : FunW P fv [.i n] (H s ++ L) C :=
  (hv s n L hi).mono (by rintro _ _ ⟨rfl, rfl⟩; exact k)

mutual
def T.mapS {σ : Type} (g : σ → Int → Int × σ) : σ → T → T × σ
  | s, .mk k i n l => if k = 1 then (.mk k (g s i).1 n l, (g s i).2) else if k = 2 then (.mk k i n (mapsS g s l).1, (mapsS g s l).2) else (.mk k i n l, s)
def mapsS {σ : Type} (g : σ → Int → Int × σ) : σ → List T → List T × σ
  | s, [] => ([], s)
  | s, t :: l => ((T.mapS g s t).1 :: (mapsS g (T.mapS g s t).2 l).1, (mapsS g (T.mapS g s t).2 l).2)
end
theorem T.mapS_eq {σ : Type} (g : σ → Int → Int × σ) (s : σ) (t : T) : T.mapS g s t = if t.kind = 1 then (.mk t.kind (g s t.int).1 t.name t.args, (g s t.int).2) else if t.kind = 2 then (.mk t.kind t.int t.name (mapsS g s t.args).1, (mapsS g s t.args).2) else (t, s) := by
  cases t; simp only [T.mapS, T.kind, T.int, T.name, T.args]; rfl

theorem funW_ret {P : Program} {f : FuncId} {args : List AV} {h h1 : AH} {r : AV} {C : AOut → AH → Prop} (H : CallW P f args h fun o h' => o = .ret r ∧ h' = h1) (k : C (.ret r) h1) : FunW P (.fn (.func f) [] []) args h C := by
  refine FunW.fn ?_
  rw [List.nil_append, List.append_nil]
  exact H.mono (by rintro _ _ ⟨rfl, rfl⟩; exact k)

/-- how many more visits a state can take -/
structure Room {σ : Type} (g : σ → Int → Int × σ) (J : σ → Nat → Prop) : Prop where
  step : ∀ s n j, J s (j + 1) → J (g s n).2 j
  less : ∀ s j j', J s j → j' ≤ j → J s j'

mutual
theorem Room.mapS {σ : Type} {g : σ → Int → Int × σ} {J : σ → Nat → Prop} (hR : Room g J) (j : Nat) : ∀ (s : σ) (t : T), J s (t.nds + j) → J (T.mapS g s t).2 j
  | s, .mk k i n l, h => by
    simp only [T.nds] at h
    simp only [T.mapS]
    split
    · exact hR.step s i j (hR.less s _ _ h (by omega))
    · split
      · exact Room.mapsS hR j s l (hR.less s _ _ h (by omega))
      · exact hR.less s _ _ h (by omega)
theorem Room.mapsS {σ : Type} {g : σ → Int → Int × σ} {J : σ → Nat → Prop} (hR : Room g J) (j : Nat) : ∀ (s : σ) (l : List T), J s (ndsL l + j) → J (mapsS g s l).2 j
  | s, [], h => by simp only [ndsL, Nat.zero_add] at h; exact h
  | s, t :: l, h => by
    simp only [ndsL] at h
    simp only [Go.Proofs.Ytplnbmldkgcedaa.Ab.mapsS]
    exact Room.mapsS hR j _ l (Room.mapS hR (ndsL l + j) s t (by rw [← Nat.add_assoc]; exact h))
end

/-- a visitor fit for a walk -/
structure VisOk (P : Program) {σ : Type} (fv : AV) (H : σ → AH) (g : σ → Int → Int × σ) (J : σ → Nat → Prop) (m : Nat) : Prop where
  len : ∀ s, (H s).length = m
  vis : Vis P fv H g (fun s n => J s 1 ∧ i64 n)
  room : Room g J
  old : ∀ s s' (i : Nat) b, (H s')[i]? = some b → (H s)[i]? = some b ∨ b.Below m

theorem leaves_vis {σ : Type} {H : σ → AH} {m : Nat} (hm : ∀ s, (H s).length = m) (hH : ∀ s s' (i : Nat) b, (H s')[i]? = some b → (H s)[i]? = some b ∨ b.Below m) {s s2 : σ} {L own : AH} {r r' : AV} {Q : AV → AH → Prop}
    (hf : Frz (H s2 ++ (L ++ own)) (m + L.length) r r') (hq : Q r' (H s2 ++ L)) : Leaves (H s ++ L) (H s2 ++ (L ++ own)) r Q := by
  have ht : (H s2 ++ (L ++ own)).take (m + L.length) = H s2 ++ L := by
    rw [← List.append_assoc, ← hm s2, ← List.length_append, List.take_left]
  refine .inl ⟨m + L.length, r', by rw [List.length_append, hm]; exact Nat.le_refl _, by simp [hm], .inr fun i b hb => ?_, hf, by rw [ht]; exact hq⟩
  rw [ht] at hb
  rcases Nat.lt_or_ge i m with hi | hi
  · rw [List.getElem?_append_left (by rw [hm]; exact hi)] at hb
    rcases hH s s2 i b hb with h | h
    · exact .inl (by rw [List.getElem?_append_left (by rw [hm]; exact hi)]; exact h)
    · exact .inr (h.mono (by omega))
  · rw [List.getElem?_append_right (by rw [hm]; exact hi), hm] at hb
    exact .inl (by rw [List.getElem?_append_right (by rw [hm]; exact hi), hm]; exact hb)

theorem mapsS_append {σ : Type} (g : σ → Int → Int × σ) : ∀ (s : σ) (l r : List T), mapsS g s (l ++ r) = ((mapsS g s l).1 ++ (mapsS g (mapsS g s l).2 r).1, (mapsS g (mapsS g s l).2 r).2)
  | s, [], r => by simp [mapsS]
  | s, t :: l, r => by simp only [List.cons_append, mapsS, mapsS_append g _ l r]
theorem mapsS_length {σ : Type} (g : σ → Int → Int × σ) : ∀ (s : σ) (l : List T), (mapsS g s l).1.length = l.length
  | s, [] => by simp [mapsS]
  | s, t :: l => by simp only [mapsS, List.length_cons, mapsS_length g _ l]
theorem mapsS_succ {σ : Type} (g : σ → Int → Int × σ) (s : σ) {l : List T} {k : Nat} (h : k < l.length) :
    (mapsS g s (l.take (k + 1))).1 = (mapsS g s (l.take k)).1 ++ [(T.mapS g (mapsS g s (l.take k)).2 l[k]).1] ∧ (mapsS g s (l.take (k + 1))).2 = (T.mapS g (mapsS g s (l.take k)).2 l[k]).2 := by
  rw [List.take_succ_eq_append_getElem h, mapsS_append]
  exact ⟨by simp [mapsS], by simp [mapsS]⟩
theorem ndsL_take_succ {l : List T} {k : Nat} (h : k < l.length) : ndsL (l.take (k + 1)) = ndsL (l.take k) + (l[k]).nds := by
  have : ∀ a b : List T, ndsL (a ++ b) = ndsL a + ndsL b := fun a b => by
    induction a with
    | nil => simp [ndsL]
    | cons t a ih => simp only [List.cons_append, ndsL, ih]; omega
  rw [List.take_succ_eq_append_getElem h, this]
  simp [ndsL]
theorem ndsL_take_le (l : List T) (k : Nat) : ndsL (l.take k) ≤ ndsL l := by
  induction l generalizing k with
  | nil => simp
  | cons t l ih =>
    cases k with
    | zero => simp [ndsL]
    | succ k => simp only [List.take_succ_cons, ndsL]; have := ih k; omega
end Go.Proofs.Ytplnbmldkgcedaa.Ab
