/-
  An abstract program logic, contracts of functions, and laws of terms and rules (part 6).
-/
import Derived.Test.YtehjodmnajgdgaaGreatDoorAbFive
import Derived.Test.YtehjodmnajgdgaaGreatDoorAbFour
set_option linter.unusedVariables false
set_option linter.unusedSimpArgs false
set_option maxHeartbeats 4000000
set_option maxRecDepth 4000
namespace Go.Proofs.YtehjodmnajgdgaaGreatDoor.Ab
open Go.Proofs
theorem Qir : ∀ (l : List UInt8) (a n : Nat), Lib.decFrom a l = some n → (∀ c ∈ l, isD c = true) ∧ l.foldl (fun n c => 10 * n + (c.toNat - 48)) a = n
  | [], a, n, h => by
    rw [Lib.decFrom] at h; cases h; exact ⟨fun c hc => (by cases hc), rfl⟩
  | c :: l, a, n, h => by
    rw [Lib.decFrom] at h
    cases hd : Lib.digitVal c with
    | none => rw [hd] at h; cases h
    | some d =>
      rw [hd] at h
      have ih := Qir l _ n h
      rw [Lib.digitVal] at hd
      split at hd
      · rename_i hc
        cases hd
        refine ⟨fun x hx => ?_, ?_⟩
        · rcases List.mem_cons.1 hx with rfl | hx
          · rw [isD, decide_eq_true_eq]; exact hc
          · exact ih.1 x hx
        · rw [List.foldl_cons, ← ih.2]; congr 1; omega
      · cases hd
theorem Qcj {p : UInt8 → Bool} {l r : List UInt8} (h : ∀ c ∈ l, p c = true) (hr : ∀ c q, r = c :: q → p c = false) : (l ++ r).takeWhile p = l ∧ (l ++ r).dropWhile p = r := by
  induction l with
  | nil =>
    cases r with
    | nil => exact ⟨rfl, rfl⟩
    | cons c q =>
      have := hr c q rfl
      simp [this]
  | cons c l ih =>
    have hc := h c (by simp)
    have ih := ih fun x hx => h x (by simp [hx])
    rw [List.cons_append, List.takeWhile_cons, List.dropWhile_cons, if_pos hc, if_pos hc, ih.1, ih.2]
    exact ⟨rfl, rfl⟩
theorem Qbk (n : Nat) : (∀ c ∈ Lib.decDigits n, isD c = true) ∧ ZX (Lib.decDigits n) = n := Qir _ _ _ (Qay n)
theorem QhW (n : Nat) : ∃ d r, Lib.decDigits n = d :: r ∧ isD d = true ∧ (0 < n → d.toNat ≠ 48) := by
  induction n using Nat.strongRecOn with
  | _ n ih =>
    have hd := (Qbk n).1
    by_cases hn : n < 10
    · have e : Lib.decDigits n = [UInt8.ofNat (48 + n)] := by rw [Lib.decDigits, dif_pos hn]
      rw [e] at hd
      refine ⟨_, _, e, hd _ (by simp), fun h => ?_⟩
      have : (UInt8.ofNat (48 + n)).toNat = 48 + n := by simp [UInt8.toNat_ofNat']; omega
      omega
    · have e : Lib.decDigits n = Lib.decDigits (n / 10) ++ [UInt8.ofNat (48 + n % 10)] := by rw [Lib.decDigits, dif_neg hn]
      obtain ⟨d, r, e2, h1, h2⟩ := ih (n / 10) (by omega)
      exact ⟨d, r ++ [UInt8.ofNat (48 + n % 10)], by rw [e, e2]; rfl, h1, fun _ => h2 (by omega)⟩
theorem QdA (s : ByteArray) : mkB s.data.toList = s := by cases s; rfl
theorem Qh4 (s : Bool) (sign : Int) (hs : sign = 1 ∨ sign = -1) (n : Nat) (hn : n ≤ 2147483648) (h0 : sign = -1 → 0 < n) (r : List UInt8) (hr : headD r = false) : pInt s sign (Lib.decDigits n ++ r) = .ok (.mk 0 (sign * n) eB []) r := by
  obtain ⟨d, q, e, hd, h48⟩ := QhW n
  obtain ⟨ha, hv⟩ := Qbk n
  have hw := Qcj (r := r) ha (fun c q e => by rw [e] at hr; exact hr)
  by_cases hz : n = 0
  · subst hz
    have e0 : Lib.decDigits 0 = [48] := by rw [Lib.decDigits_one (by omega)]; rfl
    rw [e0]
    show pInt s sign (48 :: r) = _
    have hsg : ¬ (sign < 0 ∨ (s && headD r) = true) := by
      rw [hr]; rcases hs with h | h
      · simp; omega
      · exact absurd (h0 h) (by omega)
    rw [pInt, if_pos (by decide), if_neg hsg]; simp
  · have hne := h48 (by omega)
    rw [e, List.cons_append] at hw ⊢
    rw [pInt, if_neg hne, hw.1, hw.2, ← e, hv, if_pos hn]
theorem QgE (n : Nat) (r : List UInt8) : headD (Lib.decDigits n ++ r) = true := by
  obtain ⟨d, q, e, hd, _⟩ := QhW n
  rw [e]; exact hd
theorem Qi8 (s : Bool) (ex : List UInt8 → Res T) {r : List UInt8} (h : headD r = true) : Yz s ex r = pInt s 1 r := by
  cases r with
  | nil => cases h
  | cons c q =>
    have h : isD c = true := h
    have hp := (Qaq h).2.2.2
    rw [Yz, skipSp, if_neg hp]
    simp only
    rw [if_pos h]
theorem QkR (s : Bool) (ex : List UInt8 → Res T) (i : Int) (h1 : -2147483648 ≤ i) (h2 : i ≤ 2147483648) (r : List UInt8) (hr : headD r = false) : Yz s ex ((decZ i).data.toList ++ r) = .ok (.mk 0 i eB []) r := by
  rw [decZ]
  by_cases hi : i < 0
  · rw [if_pos hi, Xk, Y2]
    show Yz s ex (45 :: (Lib.decDigits i.natAbs ++ r)) = _
    rw [Yz, skipSp, if_neg (by decide)]
    simp only
    rw [if_neg (by decide), if_pos (by decide), if_pos (QgE _ _), Qh4 s (-1) (.inr rfl) i.natAbs (by omega) (fun _ => by omega) r hr]
    congr 2; omega
  · rw [if_neg hi, Y2, Qi8 s ex (QgE _ _), Qh4 s 1 (.inl rfl) i.toNat (by omega) (fun h => by omega) r hr]
    congr 2; omega
theorem Qlu (k : Nat) (hk : k ≤ 1048576) : varV (vOf (decN k)) = some k := by
  have e : (vOf (decN k)).data.toList = 86 :: (decN k).data.toList := Xk _ _
  rw [varV, e, List.drop_succ_cons, List.drop_zero, Y2, Qay]
  simp only
  rw [if_pos ⟨hk, by rw [e, Y2]⟩]
theorem Qlb (s : Bool) (ex : List UInt8 → Res T) (k : Nat) (hk : k ≤ 1048576) (r : List UInt8) (hr : ∀ c q, r = c :: q → isW c = false) : Yz s ex ((vOf (decN k)).data.toList ++ r) = .ok (.mk 1 k eB []) r := by
  have e : (vOf (decN k)).data.toList = 86 :: (decN k).data.toList := Xk _ _
  have hall : ∀ c ∈ (vOf (decN k)).data.toList, isW c = true := by
    intro c hc
    rw [e] at hc
    rcases List.mem_cons.1 hc with rfl | hc
    · decide
    · rw [Y2] at hc; rw [isW, (Qbk k).1 c hc, Bool.or_true]
  have hw := Qcj (r := r) hall hr
  have hv : varV (mkB (vOf (decN k)).data.toList) = some k := by rw [QdA]; exact Qlu k hk
  rw [e] at hw hv
  rw [e, List.cons_append, Yz, skipSp, if_neg (by decide)]
  simp only
  rw [if_neg (by decide), if_neg (by decide), if_pos (by decide), Zd, if_pos (by decide)]
  rw [List.cons_append] at hw
  rw [hw.1, hw.2, hv]
end Go.Proofs.YtehjodmnajgdgaaGreatDoor.Ab
set_option maxRecDepth 4000
namespace Go.Proofs.YtehjodmnajgdgaaGreatDoor.Ab
open Go.Proofs
theorem Qaz {s : ByteArray} (h : XV s = true) : ∃ c q, s.data.toList = c :: q ∧ (97 ≤ c.toNat ∧ c.toNat ≤ 122) ∧ ∀ x ∈ s.data.toList, isW x = true := by
  rw [XV, Bool.and_eq_true, decide_eq_true_eq] at h
  obtain ⟨⟨h1, h2, h3, h4⟩, _⟩ := h
  have hl : 0 < s.data.toList.length := by rw [← Lib.size_eq]; omega
  obtain ⟨c, q, e⟩ : ∃ c q, s.data.toList = c :: q := by
    cases hh : s.data.toList with
    | nil => rw [hh] at hl; cases hl
    | cons c q => exact ⟨c, q, rfl⟩
  refine ⟨c, q, e, ?_, fun x hx => ?_⟩
  · have hb : byteAt s 0 = (c.toNat : Nat) := by rw [byteAt, e]; rfl
    rw [hb] at h3
    unfold ofN at h3
    split at h3
    · omega
    · split at h3
      · cases h3
      · split at h3 <;> cases h3
  · obtain ⟨k, hk, ek⟩ := List.getElem_of_mem hx
    have := h4 k (by rw [Lib.size_eq]; exact hk)
    have hb : byteAt s k = (x.toNat : Nat) := by rw [byteAt, List.getD_eq_getElem?_getD, List.getElem?_eq_getElem hk, ek]; rfl
    rw [hb, QaK] at this
    rw [isW, isL, isD, Bool.or_eq_true, decide_eq_true_eq, decide_eq_true_eq]
    omega
def C (op : List UInt8 → Res T) (st : Int) (t : T) (r : List UInt8) : Res T := X9 op st (r.length + 1) t r
theorem QfK {op : List UInt8 → Res T} (H : Eats 0 op) {st : Int} {m : Nat} {t : T} {r : List UInt8} (h : r.length < m) : X9 op st m t r = C op st t r := Qeh H st r.length m _ t r (Nat.le_refl _) h (by omega)
theorem Qea (op : List UInt8 → Res T) (st : Int) (r : List UInt8) : chain op st r = match op r with
  | .ok t r2 => C op st t r2
  | .err e => .err e := rfl
theorem Qgd {op : List UInt8 → Res T} (H : Eats 0 op) {st : Int} {t : T} {r r' : List UInt8} (h : skipSp r = skipSp r') : C op st t r = C op st t r' := by
  obtain ⟨m, hm⟩ : ∃ m, m = r.length + r'.length + 1 := ⟨_, rfl⟩
  rw [← QfK H (m := m + 1) (by omega), ← QfK H (m := m + 1) (by omega), X9, X9, h]
theorem ZH {op : List UInt8 → Res T} {st : Int} {t : T} {r : List UInt8} (h : ∀ c q, skipSp r = c :: q → ofB (mkB [c]) ≠ st) : C op st t r = .ok t (skipSp r) := by
  rw [C, X9]
  cases hs : skipSp r with
  | nil => rfl
  | cons c q => simp only; rw [if_neg (h c q hs)]
theorem C_step {op : List UInt8 → Res T} (H : Eats 0 op) {st : Int} {t u : T} {r q r3 : List UInt8} {c : UInt8} (hs : skipSp r = c :: q) (hc : ofB (mkB [c]) = st) (hop : op q = .ok u r3) : C op st t r = C op st (.mk 2 0 (mkB [c]) [t, u]) r3 := by
  have l1 := Xl hs
  have l2 := H _ _ _ hop
  rw [C, X9, hs]
  simp only
  rw [if_pos hc, hop]
  exact QfK H (by omega)
structure After (r : List UInt8) : Prop where
  word : ∀ c q, r = c :: q → isW c = false
  par : ∀ c q, skipSp r = c :: q → c.toNat ≠ 40
theorem After.digit {r : List UInt8} (h : After r) : headD r = false := by
  cases r with
  | nil => rfl
  | cons c q =>
    have := h.word c q rfl
    rw [isW, Bool.or_eq_false_iff] at this
    exact this.2
def Qdz (r : List UInt8) : Prop := ∀ c q, skipSp r = c :: q → ofB (mkB [c]) ≠ 2
def QmF (r : List UInt8) : Prop := ∀ c q, skipSp r = c :: q → ofB (mkB [c]) ≠ 1
theorem Qlp (s : Bool) (n : Nat) (r : List UInt8) : YA s n (32 :: r) = YA s n r := by
  cases n with
  | zero => rfl
  | succ n =>
    have e : ∀ ex, Yz s ex (32 :: r) = Yz s ex r := fun ex => by rw [Yz, Yz, Y4]
    simp only [YA, Qea, e]
theorem Qfo (s : Bool) (ex : List UInt8 → Res T) (r : List UInt8) : Yz s ex (32 :: r) = Yz s ex r := by rw [Yz, Yz, Y4]
abbrev O (s : Bool) (n : Nat) : List UInt8 → Res T := Yz s (YA s n)
abbrev Pr (s : Bool) (n : Nat) : List UInt8 → Res T := chain (O s n) 2
theorem Qc6 (s : Bool) (n : Nat) : Eats 0 (O s n) := (Qbd s (Yg s n)).zero
theorem Qa6 (s : Bool) (n : Nat) : Eats 0 (Pr s n) := ZF (Qc6 s n) 2
theorem Qbr (s : Bool) (n : Nat) : YA s (n + 1) = chain (Pr s n) 1 := rfl
def tl (t : T) : List UInt8 := t.txt.data.toList
theorem Qhl {c : UInt8} (h : c.toNat = 41 ∨ c.toNat = 44) (r : List UInt8) : After (c :: r) ∧ Qdz (c :: r) ∧ QmF (c :: r) := by
  have hs : skipSp (c :: r) = c :: r := by rw [skipSp, if_neg (by omega)]
  have ho : ofB (mkB [c]) = 0 := by
    have e : ∀ d : UInt8, d.toNat ≠ 41 → d.toNat ≠ 44 → (((mkB [c]).toList == ({ data := #[d] } : ByteArray).toList) = false) := fun d h1 h2 => by
      rw [Lib.toList_data, Lib.toList_data, beq_eq_false_iff_ne]
      intro hh
      have : c = d := by simpa [mkB] using hh
      subst this; omega
    rw [ofB, e 43 (by decide) (by decide), e 45 (by decide) (by decide), e 42 (by decide) (by decide), e 47 (by decide) (by decide), e 37 (by decide) (by decide)]; rfl
  refine ⟨⟨fun c' q e => ?_, fun c' q e => ?_⟩, fun c' q e => ?_, fun c' q e => ?_⟩
  · cases e; rw [isW, isL, isD, Bool.or_eq_false_iff, decide_eq_false_iff_not, decide_eq_false_iff_not]; omega
  · rw [hs] at e; cases e; omega
  · rw [hs] at e; cases e; rw [ho]; decide
  · rw [hs] at e; cases e; rw [ho]; decide
theorem Qcy {c : UInt8} {st : Int} (h : ofB (mkB [c]) = st) (h0 : st ≠ 0) (r : List UInt8) : After (32 :: c :: r) ∧ skipSp (32 :: c :: r) = c :: r := by
  have hc : c.toNat = 43 ∨ c.toNat = 45 ∨ c.toNat = 42 ∨ c.toNat = 47 ∨ c.toNat = 37 := by
    apply Classical.byContradiction
    intro hn
    have e : ∀ d : UInt8, d.toNat ≠ c.toNat → (((mkB [c]).toList == ({ data := #[d] } : ByteArray).toList) = false) := fun d h1 => by
      rw [Lib.toList_data, Lib.toList_data, beq_eq_false_iff_ne]
      intro hh
      have : c = d := by simpa [mkB] using hh
      subst this; exact h1 rfl
    have v : ∀ (d : UInt8) (k : Nat), d.toNat = k → (c.toNat = 43 ∨ c.toNat = 45 ∨ c.toNat = 42 ∨ c.toNat = 47 ∨ c.toNat = 37 → False) → (k = 43 ∨ k = 45 ∨ k = 42 ∨ k = 47 ∨ k = 37) → d.toNat ≠ c.toNat := fun d k hd hn hk => by omega
    rw [ofB, e 43 (v 43 43 rfl hn (by decide)), e 45 (v 45 45 rfl hn (by decide)), e 42 (v 42 42 rfl hn (by decide)), e 47 (v 47 47 rfl hn (by decide)), e 37 (v 37 37 rfl hn (by decide))] at h
    exact h0 h.symm
  have hs : skipSp (32 :: c :: r) = c :: r := by rw [Y4, skipSp, if_neg (by omega)]
  refine ⟨⟨fun c' q e => ?_, fun c' q e => ?_⟩, hs⟩
  · cases e; decide
  · rw [hs] at e; cases e; omega
end Go.Proofs.YtehjodmnajgdgaaGreatDoor.Ab
set_option maxRecDepth 4000
namespace Go.Proofs.YtehjodmnajgdgaaGreatDoor.Ab
open Go.Proofs
def RO (s : Bool) (t : T) : Prop := t.oper = 0 → ∀ (n : Nat) (r : List UInt8), (tl t).length + r.length ≤ n → After r → ∃ r', O s n (tl t ++ r) = .ok t r' ∧ skipSp r' = skipSp r
def RP (s : Bool) (t : T) : Prop := t.oper ≠ 1 → ∀ (n : Nat) (r : List UInt8), (tl t).length + r.length ≤ n → After r → Pr s n (tl t ++ r) = C (O s n) 2 t r
def RE (s : Bool) (t : T) : Prop := ∀ (n : Nat) (r : List UInt8), (tl t).length + r.length ≤ n → After r → Qdz r → YA s (n + 1) (tl t ++ r) = C (Pr s n) 1 t r
theorem Qfs {s : Bool} {t : T} (H : RE s t) {c : UInt8} (hc : c.toNat = 41 ∨ c.toNat = 44) (n : Nat) (r : List UInt8) (hn : (tl t).length + r.length + 1 ≤ n) : YA s (n + 1) (tl t ++ c :: r) = .ok t (c :: r) := by
  obtain ⟨h1, h2, h3⟩ := Qhl hc r
  rw [H n (c :: r) (by simp only [Qny]; omega) h1 h2, ZH h3, skipSp, if_neg (by omega)]
theorem Qhv {s : Bool} {t : T} (H : RE s t) (n : Nat) (r : List UInt8) (hn : (tl t).length + r.length + 2 ≤ n) : O s n (40 :: (tl t ++ 41 :: r)) = .ok t r := by
  obtain ⟨m, rfl⟩ : ∃ m, n = m + 1 := ⟨n - 1, by omega⟩
  show Yz s (YA s (m + 1)) _ = _
  rw [Yz, skipSp, if_neg (by decide)]
  simp only
  rw [if_neg (by decide), if_neg (by decide), if_neg (by decide), if_pos (by decide), Qfs H (.inl rfl) m r (by omega)]
  simp only
  rw [skipSp, if_neg (by decide)]
  simp only
  rw [if_pos (by decide)]
def tails : List T → List UInt8
  | [] => []
  | t :: l => 44 :: 32 :: (tl t ++ tails l)
theorem QcN : ∀ l : List T, (Yh false (txts l)).data.toList = tails l
  | [] => rfl
  | t :: l => by
    rw [txts, Yh, Xk, QcN l, if_neg (by simp), Xk]
    rfl
theorem Qgn {s : Bool} : ∀ (l : List T) (acc : List T) (n m : Nat) (r : List UInt8), (∀ t ∈ l, RE s t) → (tails l).length + r.length + 1 ≤ n → (tails l).length + r.length + 1 < m → Zc (YA s (n + 1)) m acc (tails l ++ 41 :: r) = .ok (acc ++ l) r
  | [], acc, n, m, r, _, _, hm => by
    obtain ⟨a, rfl⟩ : ∃ a, m = a + 1 := ⟨m - 1, by omega⟩
    show Zc _ (a + 1) acc (41 :: r) = _
    rw [Zc, skipSp, if_neg (by decide)]
    simp only
    rw [if_neg (by decide), if_pos (by decide), List.append_nil]
  | t :: l, acc, n, m, r, H, hn, hm => by
    obtain ⟨a, rfl⟩ : ∃ a, m = a + 1 := ⟨m - 1, by omega⟩
    have e : tails (t :: l) ++ 41 :: r = 44 :: 32 :: (tl t ++ (tails l ++ 41 :: r)) := by simp [tails]
    have hlen : (tails (t :: l)).length = 2 + (tl t).length + (tails l).length := by simp [tails]; omega
    obtain ⟨c, q, hcq, hc⟩ : ∃ c q, tails l ++ 41 :: r = c :: q ∧ (c.toNat = 41 ∨ c.toNat = 44) := by
      cases l with
      | nil => exact ⟨41, r, rfl, .inl rfl⟩
      | cons x l => exact ⟨44, _, rfl, .inr rfl⟩
    have hq : q.length + 1 = (tails l).length + r.length + 1 := by
      have := congrArg List.length hcq
      simp only [Qoc, Qny] at this; omega
    have h1 := Qfs (H t (by simp)) hc n q (by omega)
    rw [e, Zc, skipSp, if_neg (by decide)]
    simp only
    rw [if_pos (by decide), Qlp, hcq, h1]
    simp only
    rw [← hcq, Qgn l (acc ++ [t]) n a r (fun x hx => H x (by simp [hx])) (by omega) (by omega), List.append_assoc]
    rfl
theorem Qh1 {s : Bool} (name : ByteArray) (hr : XV name = true) (l : List T) (H : ∀ t ∈ l, RE s t) (n : Nat) (r : List UInt8) (hn : (funT name (txts l)).data.toList.length + r.length ≤ n) (ha : After r) :
    ∃ r', ZV (YA s n) ((funT name (txts l)).data.toList ++ r) = .ok (.mk 2 0 name l) r' ∧ skipSp r' = skipSp r := by
  obtain ⟨c, q, e, hc, hall⟩ := Qaz hr
  cases l with
  | nil =>
    have et : (funT name (txts [])).data.toList = name.data.toList := by
      rw [funT, encB, if_neg (by simp [txts]), txts, Yh, Xk]; simp
    have hw := Qcj (r := r) hall ha.word
    rw [e] at hw
    rw [et, e]
    rw [List.cons_append] at hw ⊢
    rw [Zd, if_neg (by omega), hw.1, hw.2, ← e, QdA, if_pos hr, Zr]
    cases hs : skipSp r with
    | nil => exact ⟨[], rfl, rfl⟩
    | cons d q2 =>
      have := ha.par d q2 hs
      simp only
      rw [if_neg this]
      exact ⟨_, rfl, by rw [← hs, XR]⟩
  | cons t l =>
    have et : (funT name (txts (t :: l))).data.toList = name.data.toList ++ 40 :: (tl t ++ (tails l ++ [41])) := by
      rw [funT, encB, if_pos (by simp [txts]), Xk, Xk, Xk, txts, Yh, if_pos rfl, Xk, QcN]
      show _ ++ (40 :: _ ++ [41]) = _
      simp [tl]
    have hlen : (funT name (txts (t :: l))).data.toList.length = name.data.toList.length + (tl t).length + (tails l).length + 2 := by rw [et]; simp; omega
    have hp : ∀ c' q', (40 : UInt8) :: (tl t ++ (tails l ++ 41 :: r)) = c' :: q' → isW c' = false := fun c' q' h => by cases h; decide
    have hw := Qcj (r := 40 :: (tl t ++ (tails l ++ 41 :: r))) hall hp
    have e2 : (funT name (txts (t :: l))).data.toList ++ r = name.data.toList ++ 40 :: (tl t ++ (tails l ++ 41 :: r)) := by rw [et]; simp
    have hnl : 1 ≤ name.data.toList.length := by rw [e]; simp
    obtain ⟨m, rfl⟩ : ∃ m, n = m + 1 := ⟨n - 1, by omega⟩
    obtain ⟨d, q2, hcq, hd⟩ : ∃ c q, tails l ++ 41 :: r = c :: q ∧ (c.toNat = 41 ∨ c.toNat = 44) := by
      cases l with
      | nil => exact ⟨41, r, rfl, .inl rfl⟩
      | cons x l => exact ⟨44, _, rfl, .inr rfl⟩
    have hq : q2.length + 1 = (tails l).length + r.length + 1 := by
      have := congrArg List.length hcq
      simp only [Qoc, Qny] at this; omega
    have h1 := Qfs (H t (by simp)) hd m q2 (by omega)
    rw [← hcq] at h1
    have h2 := Qgn (s := s) l [t] m ((tails l ++ 41 :: r).length + 1) r (fun x hx => H x (by simp [hx])) (by omega) (by simp)
    rw [e2, e]
    rw [e] at hw
    rw [List.cons_append] at hw ⊢
    rw [Zd, if_neg (by omega), hw.1, hw.2, ← e, QdA, if_pos hr, Zr, skipSp, if_neg (by decide)]
    simp only
    rw [if_pos (by decide), h1]
    simp only
    rw [h2]
    exact ⟨r, rfl, rfl⟩
end Go.Proofs.YtehjodmnajgdgaaGreatDoor.Ab
set_option maxRecDepth 4000
namespace Go.Proofs.YtehjodmnajgdgaaGreatDoor.Ab
open Go.Proofs
theorem Qmi {s : Bool} {t : T} (hf : t.QmQ = true) (H : ∀ a ∈ t.args, RE s a) : RO s t := by
  intro h0 n r hn ha
  have et : ∀ (e : t.oper = 0), t.txt = if t.kind = 0 then decZ t.int else if t.kind = 1 then vOf (decN t.int.toNat) else funT t.name (txts t.args) := fun e => by
    cases t with | mk k i nm l => rw [T.txt, if_neg (by rw [e]; simp)]; rfl
  have hfe := hf
  rw [T.QmR] at hfe
  have simple : ∀ {k : Int}, t.kind = k → (YU t.name && t.args.isEmpty) = true → t = .mk k t.int eB [] := fun hk he => by
    rw [Bool.and_eq_true] at he
    have e1 : t.name = eB := by
      have := QbW he.1
      cases hh : t.name with | mk d =>
      rw [hh] at this
      have : d.size = 0 := this
      have : d = #[] := Array.eq_empty_of_size_eq_zero this
      rw [this]; rfl
    have e2 : t.args = [] := by simpa using he.2
    cases t with | mk k' i nm l => simp only [T.kind, T.name, T.args, T.int] at hk e1 e2 ⊢; rw [hk, e1, e2]
  by_cases k0 : t.kind = 0
  · rw [if_pos k0] at hfe
    simp only [Bool.and_assoc, Bool.and_eq_true, decide_eq_true_eq] at hfe
    have es := simple k0 (by rw [Bool.and_eq_true]; exact hfe.2)
    have e2 : tl t = (decZ t.int).data.toList := by rw [tl, et h0, if_pos k0]
    refine ⟨r, ?_, rfl⟩
    rw [e2, es]
    exact QkR s _ t.int hfe.1.1 hfe.1.2 r ha.digit
  by_cases k1 : t.kind = 1
  · rw [if_neg k0, if_pos k1] at hfe
    simp only [Bool.and_assoc, Bool.and_eq_true, decide_eq_true_eq] at hfe
    have es := simple k1 (by rw [Bool.and_eq_true]; exact hfe.2)
    have e2 : tl t = (vOf (decN t.int.toNat)).data.toList := by rw [tl, et h0, if_neg k0, if_pos k1]
    refine ⟨r, ?_, rfl⟩
    have := Qlb s (YA s n) t.int.toNat (by omega) r ha.word
    rw [e2, show O s n ((vOf (decN t.int.toNat)).data.toList ++ r) = _ from this]
    rw [show ((t.int.toNat : Nat) : Int) = t.int by omega, ← es]
  have k2 : t.kind = 2 := by
    apply Classical.byContradiction
    intro k2
    rw [if_neg k0, if_neg k1, if_neg k2] at hfe
    cases hfe
  obtain ⟨hi, _, hnm, _⟩ := T.QmW hf k2
  have hr : XV t.name = true := by
    rcases hnm with h | ⟨h, hl⟩
    · exact h
    · exfalso
      rw [T.oper, if_neg (by omega), Qfx h] at h0
      split at h0 <;> cases h0
  have e2 : tl t = (funT t.name (txts t.args)).data.toList := by rw [tl, et h0, if_neg k0, if_neg k1]
  obtain ⟨r', h1, h2⟩ := Qh1 (s := s) t.name hr t.args H n r (by rw [← e2]; omega) ha
  obtain ⟨c, q, e, hc, _⟩ := Qaz hr
  have e3 : ∃ q', tl t ++ r = c :: q' := by
    rw [e2, funT, Xk, e]; exact ⟨_, by rw [List.cons_append, List.cons_append]⟩
  obtain ⟨q', e3⟩ := e3
  refine ⟨r', ?_, h2⟩
  have e4 : t = .mk 2 0 t.name t.args := by
    cases t with | mk k' i nm l => simp only [T.kind, T.int] at k2 hi; rw [k2, hi]; rfl
  rw [← e2, e3] at h1
  rw [e3]
  show Yz s (YA s n) (c :: q') = _
  rw [Yz, skipSp, if_neg (by omega)]
  simp only
  rw [if_neg (by rw [isD, decide_eq_true_eq]; omega), if_neg (by omega), if_pos (by rw [isL, decide_eq_true_eq]; omega), h1, ← e4]
theorem Qhh {t : T} (hf : t.QmQ = true) (h0 : t.oper ≠ 0) : ∃ (c : UInt8) (x y : T), t = .mk 2 0 (mkB [c]) [x, y] ∧ ofB (mkB [c]) = t.oper ∧ x.QmQ = true ∧ y.QmQ = true ∧
    tl t = (encB ((x.oper == 1) && (t.oper == 2)) x.txt).data.toList ++ 32 :: c :: 32 :: (encB ((y.oper != 0) && ((y.oper == 1) || (t.oper == 2))) y.txt).data.toList := by
  have k2 : t.kind = 2 := by
    apply Classical.byContradiction; intro h; exact h0 (by rw [T.oper, if_pos (.inl h)])
  have hl : t.args.length = 2 := by
    apply Classical.byContradiction; intro h; exact h0 (by rw [T.oper, if_pos (.inr h)])
  have er : t.oper = ofB t.name := by rw [T.oper, if_neg (by omega)]
  obtain ⟨hi, _, _, hfs⟩ := T.QmW hf k2
  obtain ⟨x, y, hxy⟩ : ∃ x y, t.args = [x, y] := by
    match hh : t.args, hl with
    | [x, y], _ => exact ⟨x, y, rfl⟩
  have hop : opB t.name = true := by
    cases h : opB t.name with
    | true => rfl
    | false => exact absurd (by rw [er, QlX h]) h0
  obtain ⟨c, ec⟩ : ∃ c, t.name = mkB [c] := by
    simp only [opB, Bool.or_eq_true, beq_iff_eq, Lib.toList_data] at hop
    rcases hop with (((h | h) | h) | h) | h
    all_goals exact ⟨_, by rw [← QdA t.name, h]⟩
  rw [hxy] at hfs
  refine ⟨c, x, y, ?_, ?_, Ya hfs x (by simp), Ya hfs y (by simp), ?_⟩
  · cases t with | mk k i nm l => simp only [T.kind, T.int, T.name, T.args] at k2 hi ec hxy; rw [k2, hi, ec, hxy]
  · rw [er, ec]
  · have : t.txt = binT (ofB t.name) t.name x.oper y.oper x.txt y.txt := by
      cases t with | mk k i nm l =>
      simp only [T.args] at hxy
      subst hxy
      rw [T.txt, if_pos h0]; rfl
    rw [tl, this, binT, ← er, ec]
    simp only [Xk]
    show _ ++ ([32] ++ [c] ++ [32]) ++ _ = _
    simp
theorem Z0 (b : Bool) (x : ByteArray) : (encB b x).data.toList = if b = true then 40 :: (x.data.toList ++ [41]) else x.data.toList := by
  rw [encB]; split
  · rw [Xk, Xk]; rfl
  · rfl
theorem Pr_C (s : Bool) (n : Nat) (r : List UInt8) : Pr s n r = match O s n r with
  | .ok t r2 => C (O s n) 2 t r2
  | .err e => .err e := rfl
theorem QdP (s : Bool) : ∀ (k : Nat) (t : T), t.nds ≤ k → t.QmQ = true → RO s t ∧ RP s t ∧ RE s t := by
  intro k
  induction k with
  | zero => intro t hn; have := T.QmZ t; omega
  | succ k ih =>
    intro t hn hf
    have hnd := T.QmZ t
    have sub : ∀ a ∈ t.args, a.QmQ = true → RO s a ∧ RP s a ∧ RE s a := fun a ha hfa => by
      obtain ⟨j, hj, e⟩ := List.getElem_of_mem ha
      have := QaF hj
      rw [e] at this
      exact ih a (by omega) hfa
    have hro : RO s t := by
      refine Qmi hf fun a ha => (sub a ha ?_).2.2
      by_cases k2 : t.kind = 2
      · exact Ya (T.QmW hf k2).2.2.2 a ha
      · exfalso
        rw [T.QmR] at hf
        by_cases k0 : t.kind = 0
        · rw [if_pos k0] at hf
          simp only [Bool.and_eq_true] at hf
          have : t.args = [] := by simpa using hf.2
          rw [this] at ha; cases ha
        · rw [if_neg k0] at hf
          by_cases k1 : t.kind = 1
          · rw [if_pos k1] at hf
            simp only [Bool.and_eq_true] at hf
            have : t.args = [] := by simpa using hf.2
            rw [this] at ha; cases ha
          · rw [if_neg k1, if_neg k2] at hf; cases hf
    have hrp : RP s t := by
      intro h1 n r hn2 ha
      by_cases h0 : t.oper = 0
      · obtain ⟨r', e1, e2⟩ := hro h0 n r hn2 ha
        rw [Pr_C, e1]
        exact Qgd (Qc6 s n) e2
      have h2 : t.oper = 2 := by have := T.Qm1 t; omega
      obtain ⟨c, x, y, et, eo, hfx, hfy, etl⟩ := Qhh hf h0
      have hx := sub x (by rw [et]; simp [T.args]) hfx
      have hy := sub y (by rw [et]; simp [T.args]) hfy
      rw [h2] at eo etl
      obtain ⟨YL, eYL⟩ : ∃ YL, YL = (encB ((y.oper != 0) && ((y.oper == 1) || ((2 : Int) == 2))) y.txt).data.toList := ⟨_, rfl⟩
      obtain ⟨XL, eXL⟩ : ∃ XL, XL = (encB ((x.oper == 1) && ((2 : Int) == 2)) x.txt).data.toList := ⟨_, rfl⟩
      rw [← eYL, ← eXL] at etl
      obtain ⟨hA, hsk⟩ := Qcy eo (by decide) (32 :: (YL ++ r))
      have hlen := congrArg List.length etl
      simp only [Qoc, Qny] at hlen
      -- behind the left operand
      have step : C (O s n) 2 x (32 :: c :: 32 :: (YL ++ r)) = C (O s n) 2 t r := by
        by_cases hy0 : y.oper = 0
        · have eY : YL = tl y := by rw [eYL, Z0, if_neg (by rw [hy0]; simp)]; rfl
          rw [eY] at hsk hlen ⊢
          obtain ⟨r', e1, e2⟩ := hy.1 hy0 n r (by omega) ha
          have e1' : O s n (32 :: (tl y ++ r)) = .ok y r' := by rw [show O s n (32 :: (tl y ++ r)) = O s n (tl y ++ r) from Qfo _ _ _]; exact e1
          rw [C_step (Qc6 s n) hsk eo e1', ← et]
          exact Qgd (Qc6 s n) e2
        · have eY : YL = 40 :: (tl y ++ [41]) := by rw [eYL, Z0, if_pos (by simp [hy0])]; rfl
          rw [eY] at hsk hlen ⊢
          simp only [Qoc, Qny, Qnz] at hlen
          have e1 := Qhv hy.2.2 n r (by omega)
          have e1' : O s n (32 :: (40 :: (tl y ++ [41]) ++ r)) = .ok y r := by
            rw [show O s n (32 :: (40 :: (tl y ++ [41]) ++ r)) = O s n (40 :: (tl y ++ [41]) ++ r) from Qfo _ _ _]
            rw [show (40 :: (tl y ++ [41]) ++ r) = 40 :: (tl y ++ 41 :: r) by simp]; exact e1
          rw [C_step (Qc6 s n) hsk eo e1', ← et]
      rw [etl]
      simp only [List.append_assoc, QnN]
      rw [← step]
      by_cases hx1 : x.oper = 1
      · have eX : XL = 40 :: (tl x ++ [41]) := by rw [eXL, Z0, if_pos (by rw [hx1]; rfl)]; rfl
        rw [eX] at hlen ⊢
        simp only [Qoc, Qny, Qnz] at hlen
        have e1 := Qhv hx.2.2 n (32 :: c :: 32 :: (YL ++ r)) (by simp only [Qny, Qoc]; omega)
        rw [Pr_C]
        rw [show (40 :: (tl x ++ [41]) ++ 32 :: c :: 32 :: (YL ++ r)) = 40 :: (tl x ++ 41 :: (32 :: c :: 32 :: (YL ++ r))) by simp, e1]
      · have eX : XL = tl x := by rw [eXL, Z0, if_neg (by simp [hx1])]; rfl
        rw [eX] at hlen ⊢
        exact hx.2.1 hx1 n _ (by simp only [Qny, Qoc]; omega) hA
    refine ⟨hro, hrp, ?_⟩
    intro n r hn2 ha hns
    by_cases h1 : t.oper = 1
    · obtain ⟨c, x, y, et, eo, hfx, hfy, etl⟩ := Qhh hf (by omega)
      have hx := sub x (by rw [et]; simp [T.args]) hfx
      have hy := sub y (by rw [et]; simp [T.args]) hfy
      rw [h1] at eo etl
      obtain ⟨YL, eYL⟩ : ∃ YL, YL = (encB ((y.oper != 0) && ((y.oper == 1) || ((1 : Int) == 2))) y.txt).data.toList := ⟨_, rfl⟩
      have eX : (encB ((x.oper == 1) && ((1 : Int) == 2)) x.txt).data.toList = tl x := by rw [Z0, if_neg (by simp)]; rfl
      rw [← eYL, eX] at etl
      obtain ⟨hA, hsk⟩ := Qcy eo (by decide) (32 :: (YL ++ r))
      have hlen := congrArg List.length etl
      simp only [Qoc, Qny] at hlen
      have hns2 : Qdz (32 :: c :: 32 :: (YL ++ r)) := fun d q e => by
        rw [hsk] at e; cases e; rw [eo]; decide
      rw [etl]
      simp only [List.append_assoc, QnN]
      have e0 := hx.2.2 n _ (by simp only [Qny, Qoc]; omega) hA hns2
      rw [e0]
      have psp : ∀ q, Pr s n (32 :: q) = Pr s n q := fun q => by rw [Pr_C, Pr_C, show O s n (32 :: q) = O s n q from Qfo _ _ _]
      have hyr : Pr s n (32 :: (YL ++ r)) = .ok y (skipSp r) := by
        rw [psp]
        by_cases hy1 : y.oper = 1
        · have eY : YL = 40 :: (tl y ++ [41]) := by rw [eYL, Z0, if_pos (by rw [hy1]; rfl)]; rfl
          rw [eY] at hlen ⊢
          simp only [Qoc, Qny, Qnz] at hlen
          have e1 := Qhv hy.2.2 n r (by omega)
          rw [Pr_C, show (40 :: (tl y ++ [41]) ++ r) = 40 :: (tl y ++ 41 :: r) by simp, e1]
          exact ZH hns
        · have eY : YL = tl y := by rw [eYL, Z0, if_neg (by simp [hy1])]; rfl
          rw [eY] at hlen ⊢
          rw [hy.2.1 hy1 n r (by omega) ha]
          exact ZH hns
      rw [C_step (Qa6 s n) hsk eo hyr, ← et]
      exact Qgd (Qa6 s n) (XR r)
    · rw [Qbr, Qea, hrp h1 n r hn2 ha, ZH hns]
      exact Qgd (Qa6 s n) (XR r)
theorem Qf8 (s : Bool) (t : T) (hr : (t.run 200 20).1 = true) : Zm s (tl t) = .ok t [] := by
  have hf : t.QmQ = true := by
    rw [T.QmU, Bool.and_eq_true] at hr; exact hr.1
  have hsz : t.size ≤ 200 := by
    rw [T.QmU, Bool.and_eq_true, Bool.and_eq_true, decide_eq_true_eq] at hr; exact hr.2.1
  have hs := (T.QmS hf).2.1
  have hl : (tl t).length ≤ 12000 := by rw [tl, ← Lib.size_eq]; omega
  have h := (QdP s t.nds t (Nat.le_refl _) hf).2.2 (tl t).length [] (by simp) ⟨fun c q e => (by cases e), fun c q e => (by cases e)⟩ (fun c q e => by cases e)
  rw [List.append_nil] at h
  rw [Zm, if_neg (by omega), h, ZH (fun c q e => by cases e)]
  simp only
  rw [if_neg (by simp [skipSp]), if_pos hr]
end Go.Proofs.YtehjodmnajgdgaaGreatDoor.Ab
set_option maxRecDepth 4000
namespace Go.Proofs.YtehjodmnajgdgaaGreatDoor.Ab
open Go.Proofs
theorem Zu : ∀ a b : List UInt8, Q6 (a ++ b) = Q6 a ++ Q6 b
  | [], b => rfl
  | c :: a, b => by rw [List.cons_append, Q6, Q6, Zu a b, List.append_assoc]
theorem Qaw : ∀ {l : List UInt8}, (∀ c ∈ l, c.toNat ≠ 40 ∧ c.toNat ≠ 41 ∧ c.toNat ≠ 44) → Q6 l = l
  | [], _ => rfl
  | c :: l, h => by
    obtain ⟨h1, h2, h3⟩ := h c (by simp)
    rw [Q6, if_neg (by omega), if_neg h3, Qaw fun x hx => h x (by simp [hx])]; rfl
theorem QdB : ∀ l : List UInt8, (Q6 l).length ≤ 4 * l.length
  | [] => Nat.le_refl _
  | c :: l => by
    have := QdB l
    rw [Q6, List.length_append, List.length_cons]
    split
    · simp only [Qny, Qnz]; omega
    · split <;> (simp only [Qny, Qnz]; omega)
theorem Qgb (b : Bool) (x : ByteArray) : (Q6 (encB b x).data.toList).length ≤ (Q6 x.data.toList).length + 8 := by
  rw [Z0]; split
  · rw [Q6, if_pos (by decide), Zu, List.length_append, List.length_append]
    have : (Q6 [41]).length = 4 := by decide
    simp only [Qny, Qnz, this]; omega
  · omega
theorem Qd8 : ∀ (l : List T), (∀ t ∈ l, (Q6 (tl t)).length + 8 ≤ 60 * t.size) → (Q6 (tails l)).length ≤ 60 * sizes l
  | [], _ => Nat.zero_le _
  | t :: l, h => by
    have h1 := Qd8 l fun x hx => h x (by simp [hx])
    have h2 := h t (by simp)
    have e : tails (t :: l) = [44, 32] ++ (tl t ++ tails l) := rfl
    have e2 : (Q6 [44, 32]).length = 3 := by decide
    rw [e, Zu, Zu, List.length_append, List.length_append, e2, sizes]; omega
theorem QgG {name : ByteArray} (hr : XV name = true) (l : List T) (h : ∀ t ∈ l, (Q6 (tl t)).length + 8 ≤ 60 * t.size) : (Q6 (funT name (txts l)).data.toList).length ≤ 48 + 60 * sizes l := by
  obtain ⟨_, _, _, _, hall⟩ := Qaz hr
  have hn := (Y8 hr).2
  rw [Lib.size_eq] at hn
  have e0 : Q6 name.data.toList = name.data.toList := Qaw fun c hc => by
    obtain ⟨a, b, c, _⟩ := Qg2 (hall c hc); exact ⟨a, b, c⟩
  cases l with
  | nil =>
    have et : (funT name (txts [])).data.toList = name.data.toList := by
      rw [funT, encB, if_neg (by simp [txts]), txts, Yh, Xk]; simp
    rw [et, e0]; omega
  | cons t l =>
    have et : (funT name (txts (t :: l))).data.toList = name.data.toList ++ ([40] ++ (tl t ++ (tails l ++ [41]))) := by
      rw [funT, encB, if_pos (by simp [txts]), Xk, Xk, Xk, txts, Yh, if_pos rfl, Xk, QcN]
      show _ ++ (40 :: _ ++ [41]) = _
      simp [tl]
    have h1 := Qd8 l fun x hx => h x (by simp [hx])
    have h2 := h t (by simp)
    have e1 : (Q6 [40]).length = 4 := by decide
    have e2 : (Q6 [41]).length = 4 := by decide
    rw [et]
    simp only [Zu, Qoc, e0, e1, e2, sizes]; omega
theorem QgA : ∀ (k : Nat) (t : T), t.nds ≤ k → t.QmQ = true → (Q6 (tl t)).length + 8 ≤ 60 * t.size := by
  intro k
  induction k with
  | zero => intro t hn; have := T.QmZ t; omega
  | succ k ih =>
    intro t hn hf
    have hnd := T.QmZ t
    have hsz := T.size_eq t
    by_cases h0 : t.oper = 0
    · have et : t.txt = if t.kind = 0 then decZ t.int else if t.kind = 1 then vOf (decN t.int.toNat) else funT t.name (txts t.args) := by
        cases t with | mk k i nm l => rw [T.txt, if_neg (by simpa using h0)]; rfl
      have dig : ∀ n : Nat, ∀ c ∈ Lib.decDigits n, c.toNat ≠ 40 ∧ c.toNat ≠ 41 ∧ c.toNat ≠ 44 := fun n c hc => by
        have := Qaq ((Qbk n).1 c hc); exact ⟨this.1, this.2.1, this.2.2.1⟩
      have hs := (T.QmS hf).2.1
      by_cases k0 : t.kind = 0
      · have hfe := hf
        rw [T.QmR, if_pos k0] at hfe
        simp only [Bool.and_assoc, Bool.and_eq_true, decide_eq_true_eq] at hfe
        have hz := QgJ t.int (by omega) (by omega)
        have e : Q6 (tl t) = tl t := Qaw fun c hc => by
          rw [tl, et, if_pos k0, decZ] at hc
          split at hc
          · rw [Xk] at hc
            rcases List.mem_append.1 hc with hc | hc
            · have : c = 45 := by simpa using hc
              subst this; decide
            · exact dig _ c hc
          · exact dig _ c hc
        rw [e, tl, et, if_pos k0, ← Lib.size_eq]; omega
      by_cases k1 : t.kind = 1
      · have hfe := hf
        rw [T.QmR, if_neg k0, if_pos k1] at hfe
        simp only [Bool.and_assoc, Bool.and_eq_true, decide_eq_true_eq] at hfe
        have hz := Qcl (n := t.int.toNat) (by omega)
        have e : Q6 (tl t) = tl t := Qaw fun c hc => by
          rw [tl, et, if_neg k0, if_pos k1, vOf, Xk] at hc
          rcases List.mem_append.1 hc with hc | hc
          · have : c = 86 := by simpa using hc
            subst this; decide
          · exact dig _ c hc
        rw [e, tl, et, if_neg k0, if_pos k1, ← Lib.size_eq, Qh3]; omega
      have k2 : t.kind = 2 := by
        apply Classical.byContradiction
        intro k2
        rw [T.QmR, if_neg k0, if_neg k1, if_neg k2] at hf
        cases hf
      obtain ⟨_, _, hnm, hfs⟩ := T.QmW hf k2
      have hr : XV t.name = true := by
        rcases hnm with h | ⟨h, hl⟩
        · exact h
        · exfalso
          rw [T.oper, if_neg (by omega), Qfx h] at h0
          split at h0 <;> cases h0
      have hu : t.uses = t.args := by rw [T.uses, if_pos k2]
      have := QgG hr t.args fun a ha => by
        obtain ⟨j, hj, e⟩ := List.getElem_of_mem ha
        have := QaF hj
        rw [e] at this
        exact ih a (by omega) (Ya hfs a ha)
      rw [hu] at hsz
      rw [tl, et, if_neg k0, if_neg k1]; omega
    · obtain ⟨c, x, y, ett, eo, hfx, hfy, etl⟩ := Qhh hf h0
      have hnd2 : t.nds = 1 + (x.nds + (y.nds + 0)) := by rw [hnd, ett]; rfl
      have hsz2 : t.size = 1 + (x.size + (y.size + 0)) := by rw [hsz, ett]; rfl
      have hx := ih x (by omega) hfx
      have hy := ih y (by omega) hfy
      have h1 := Qgb ((x.oper == 1) && (t.oper == 2)) x.txt
      have h2 := Qgb ((y.oper != 0) && ((y.oper == 1) || (t.oper == 2))) y.txt
      have h3 := QdB [32, c, 32]
      have e : tl t = (encB ((x.oper == 1) && (t.oper == 2)) x.txt).data.toList ++ ([32, c, 32] ++ (encB ((y.oper != 0) && ((y.oper == 1) || (t.oper == 2))) y.txt).data.toList) := by rw [etl]; rfl
      rw [e, Zu, Zu, List.length_append, List.length_append]
      simp only [Qny, Qnz, tl] at h3 hx hy
      omega
theorem QhG (s : Bool) (t : T) (hr : (t.run 200 20).1 = true) : Zm s (Q6 (tl t)) = .ok t [] := by
  have hf : t.QmQ = true := by
    rw [T.QmU, Bool.and_eq_true] at hr; exact hr.1
  have hsz : t.size ≤ 200 := by
    rw [T.QmU, Bool.and_eq_true, Bool.and_eq_true, decide_eq_true_eq] at hr; exact hr.2.1
  have := QgA t.nds t (Nat.le_refl _) hf
  exact Qgv s (tl t) t (Qf8 s t hr) (by omega)
theorem QlI {s : Bool} {t : T} (H : RE s t) (n : Nat) (r : List UInt8) (hn : (tl t).length + r.length + 2 ≤ n) (hns : Qdz r) : YA s (n + 1) (40 :: (tl t ++ 41 :: r)) = C (Pr s n) 1 t r := by
  rw [Qbr, Qea, Pr_C, Qhv H n r hn]
  simp only
  rw [ZH hns]
  exact Qgd (Qa6 s n) (XR r)
theorem Qkv (s : Bool) (t : T) (hr : (t.run 200 20).1 = true) : Zm s (40 :: 40 :: (tl t ++ [41, 32, 41])) = .ok t [] := by
  have hf : t.QmQ = true := by
    rw [T.QmU, Bool.and_eq_true] at hr; exact hr.1
  have hsz : t.size ≤ 200 := by
    rw [T.QmU, Bool.and_eq_true, Bool.and_eq_true, decide_eq_true_eq] at hr; exact hr.2.1
  have hs := (T.QmS hf).2.1
  have hl : (tl t).length ≤ 12000 := by rw [tl, ← Lib.size_eq]; omega
  have H := (QdP s t.nds t (Nat.le_refl _) hf).2.2
  have hlen : (40 :: 40 :: (tl t ++ [41, 32, 41]) : List UInt8).length = (tl t).length + 5 := by simp
  have h41 : skipSp [32, 41] = [41] := by decide
  have hc0 : ofB (mkB [41]) = 0 := by kernel_rfl
  have hin : ∀ n, (tl t).length + 4 ≤ n → YA s (n + 1) (40 :: (tl t ++ [41, 32, 41])) = .ok t [41] := fun n hn => by
    rw [QlI H n [32, 41] (by simpa using hn) (fun c q e => by rw [h41] at e; cases e; rw [hc0]; decide), ZH (fun c q e => by rw [h41] at e; cases e; rw [hc0]; decide), h41]
  have hO : O s ((tl t).length + 5) (40 :: 40 :: (tl t ++ [41, 32, 41])) = .ok t [] := by
    show Yz s (YA s ((tl t).length + 4 + 1)) _ = _
    rw [Yz, skipSp, if_neg (by decide)]
    simp only
    rw [if_neg (by decide), if_neg (by decide), if_neg (by decide), if_pos (by decide), hin _ (Nat.le_refl _)]
    rfl
  rw [Zm, hlen, if_neg (by omega), Qbr, Qea, Pr_C, hO]
  simp only
  rw [ZH (fun c q e => by cases e)]
  simp only
  rw [ZH (fun c q e => by cases e)]
  simp only
  rw [if_neg (by simp [skipSp]), if_pos hr]
end Go.Proofs.YtehjodmnajgdgaaGreatDoor.Ab
set_option maxRecDepth 4000
namespace Go.Proofs.YtehjodmnajgdgaaGreatDoor.Ab
open Go.Proofs
theorem QjG (s : Bool) (l l' : List UInt8) (g : G) (hL : Lo l l') (h : QaQ s l = .ok g []) (hl : l'.length ≤ 16384) : QaQ s l' = .ok g [] := by
  rw [QaQ] at h ⊢
  rw [if_neg (by omega)]
  split at h
  · cases h
  obtain ⟨N, hN⟩ : ∃ N, N = l.length + l'.length + 1 := ⟨_, rfl⟩
  cases hs : skipSp l with
  | nil => rw [hs] at h; cases h
  | cons c r =>
    obtain ⟨r', hs', _, hpl⟩ := hL.cons hs
    have hl1 := Xl hs
    have hl2 := Xl hs'
    rw [hs] at h
    rw [hs']
    simp only at h ⊢
    by_cases hc : 97 ≤ c.toNat ∧ c.toNat ≤ 122
    · rw [if_pos hc] at h ⊢
      have hw : isL c = true := by rw [isL, decide_eq_true_eq]; omega
      have wag : ∀ (n : Nat) (q : List UInt8), q.length < n → n ≤ N → ZV (YA s n) (c :: q) = ZV (YA s N) (c :: q) := fun n q h1 h2 => by
        have A := QcF s q.length n N h1 (by omega)
        have H := Yg s n
        have ha : Zr (YA s n) ((c :: q).dropWhile isW) = Zr (YA s N) ((c :: q).dropWhile isW) := by
          have hd : ((c :: q).dropWhile isW).length ≤ q.length := by
            rw [List.dropWhile_cons, if_pos (Qin hw)]
            exact QaZ isW q
          rw [Zr, Zr]
          cases hs2 : skipSp ((c :: q).dropWhile isW) with
          | nil => rfl
          | cons d r3 =>
            have hl2 := Xl hs2
            simp only
            rw [← A r3 (by omega)]
            split
            · cases he : YA s n r3 with
              | err e => rfl
              | ok t r4 =>
                have := H _ _ _ he
                exact QcU A H _ _ r4 (by omega)
            · rfl
        rw [Zd, Zd, ha]
      rw [wag _ r (by omega) (by omega)] at h
      rw [wag _ r' (by omega) (by omega), hpl (by omega) (by omega)]
      have hr := QjQ (Qhi s N) (Yg s N) (Yg s N) hw r
      cases he : ZV (YA s N) (c :: r) with
      | err e => rw [he] at h; cases h
      | ok a r2 =>
        rw [he] at hr h
        obtain ⟨r2', e', hL2⟩ := hr.ok
        rw [e']
        simp only at h ⊢
        split at h
        · cases h
        · rename_i h1
          have h1 : skipSp r2 = [] := by
            apply Classical.byContradiction; intro hc; exact h1 hc
          rw [if_neg (by rw [hL2.nil h1]; simp)]
          exact h
    · rw [if_neg hc] at h; cases h
theorem QhI {g : G} (h : Q3 g = true) : XV g.name = true ∧ X7 g.args = true ∧ sizes g.args ≤ 200 := by
  simp only [Q3, Bool.and_eq_true] at h
  obtain ⟨h1, _, h3⟩ := h
  rw [(Qao g.args 200 20 (by omega) (by omega)).1, Bool.and_eq_true, decide_eq_true_eq] at h3
  exact ⟨h1, h3.1, by omega⟩
theorem Qfk (s : Bool) (g : G) (hop : g.op = 0) (h : Q3 g = true) : QaQ s (txtA g).data.toList = .ok g [] ∧ (Q6 (txtA g).data.toList).length ≤ 12048 := by
  obtain ⟨hr, hf, hsz⟩ := QhI h
  have H : ∀ t ∈ g.args, RE s t := fun t ht => (QdP s t.nds t (Nat.le_refl _) (Ya hf t ht)).2.2
  have HL : ∀ t ∈ g.args, (Q6 (tl t)).length + 8 ≤ 60 * t.size := fun t ht => QgA t.nds t (Nat.le_refl _) (Ya hf t ht)
  have hlen := QgG hr g.args HL
  rw [txtA, if_pos h]
  refine ⟨?_, by omega⟩
  have hsz2 : (funT g.name (txts g.args)).data.toList.length ≤ 15000 := by
    have h1 := QeK hf
    have h2 := (Y8 hr).2
    have h3 := QbV (decide (0 < (txts g.args).length)) (Yh true (txts g.args))
    rw [← Lib.size_eq, funT, QE]; omega
  obtain ⟨c, q, e, hc, _⟩ := Qaz hr
  obtain ⟨q', e3⟩ : ∃ q', (funT g.name (txts g.args)).data.toList = c :: q' := by
    rw [funT, Xk, e]; exact ⟨_, rfl⟩
  have hL := congrArg List.length e3
  obtain ⟨r', h1, h2⟩ := Qh1 (s := s) g.name hr g.args H ((funT g.name (txts g.args)).data.toList.length + 1) [] (by simp) ⟨fun c q e => (by cases e), fun c q e => (by cases e)⟩
  rw [List.append_nil] at h1
  have h2 : skipSp r' = [] := h2
  rw [QaQ, if_neg (by omega)]
  rw [e3] at h1 ⊢
  rw [skipSp, if_neg (by omega)]
  simp only
  rw [if_pos hc, h1]
  simp only
  rw [if_neg (by rw [h2]; simp)]
  have eg : (⟨0, (T.mk 2 0 g.name g.args).name, (T.mk 2 0 g.name g.args).args⟩ : G) = g := by cases g; simp only [T.name, T.args] at hop ⊢; rw [hop]
  rw [eg, if_pos h]
theorem Qgz (s : Bool) (g : G) (hop : g.op = 0) (h : Q3 g = true) : QaQ s (32 :: Q6 (txtA g).data.toList) = .ok g [] := by
  obtain ⟨h1, h2⟩ := Qfk s g hop h
  refine QjG s _ _ g ?_ h1 (by simp only [Qny]; omega)
  rw [Lo, Y4]
def chT (c d : UInt8) (x y z : T) : T := if ofB (mkB [c]) = 1 ∧ ofB (mkB [d]) = 2 then .mk 2 0 (mkB [c]) [x, .mk 2 0 (mkB [d]) [y, z]] else .mk 2 0 (mkB [d]) [.mk 2 0 (mkB [c]) [x, y], z]
def chL (c d : UInt8) (x y z : T) : List UInt8 := 40 :: (tl x ++ 41 :: c :: 40 :: (tl y ++ 41 :: 32 :: d :: 40 :: (tl z ++ [41])))
theorem QjC {c : UInt8} {st : Int} (h : ofB (mkB [c]) = st) (h0 : st ≠ 0) (r : List UInt8) : skipSp (c :: r) = c :: r := by
  have := (Qcy h h0 r).2
  rwa [Y4] at this
theorem QiC (s : Bool) {c d : UInt8} {x y z : T} (hx : RE s x) (hy : RE s y) (hz : RE s z) (hc : ofB (mkB [c]) = 1 ∨ ofB (mkB [c]) = 2) (hd : ofB (mkB [d]) = 1 ∨ ofB (mkB [d]) = 2) (n : Nat) (hn : (chL c d x y z).length ≤ n) :
    YA s (n + 1) (chL c d x y z) = .ok (chT c d x y z) [] := by
  have hlen : (chL c d x y z).length = (tl x).length + (tl y).length + (tl z).length + 9 := by simp [chL]; omega
  obtain ⟨R2, e2⟩ : ∃ R, R = 32 :: d :: 40 :: (tl z ++ [41]) := ⟨_, rfl⟩
  obtain ⟨R1, e1⟩ : ∃ R, R = c :: 40 :: (tl y ++ 41 :: R2) := ⟨_, rfl⟩
  have l2 : R2.length = (tl z).length + 4 := by rw [e2]; simp
  have l1 : R1.length = (tl y).length + (tl z).length + 7 := by rw [e1]; simp [l2]; omega
  have eL : chL c d x y z = 40 :: (tl x ++ 41 :: R1) := by rw [chL, e1, e2]
  have ox := Qhv hx n R1 (by omega)
  have oy := Qhv hy n R2 (by omega)
  have oz : O s n (40 :: (tl z ++ [41])) = .ok z [] := Qhv hz n [] (by simp only [Qnz]; omega)
  have s2 : skipSp R2 = d :: 40 :: (tl z ++ [41]) := by
    rw [e2]
    rcases hd with h | h
    · exact (Qcy h (by decide) _).2
    · exact (Qcy h (by decide) _).2
  have s1 : skipSp R1 = c :: 40 :: (tl y ++ 41 :: R2) := by
    rw [e1]
    rcases hc with h | h
    · exact QjC h (by decide) _
    · exact QjC h (by decide) _
  have pz : Pr s n (40 :: (tl z ++ [41])) = .ok z [] := by
    rw [Pr_C, oz]; exact ZH fun c q e => by cases e
  have nil2 : ∀ t : T, C (O s n) 2 t [] = .ok t [] := fun t => ZH fun c q e => by cases e
  have nil1 : ∀ t : T, C (Pr s n) 1 t [] = .ok t [] := fun t => ZH fun c q e => by cases e
  rw [eL, Qbr, Qea, Pr_C, ox]
  simp only
  rcases hc with hc | hc
  · -- weak, then ..
    rw [ZH (fun c' q e => by rw [s1] at e; cases e; rw [hc]; decide)]
    simp only
    have h1 : skipSp (skipSp R1) = c :: 40 :: (tl y ++ 41 :: R2) := by rw [XR, s1]
    rcases hd with hd | hd
    · have py : Pr s n (40 :: (tl y ++ 41 :: R2)) = .ok y (skipSp R2) := by
        rw [Pr_C, oy]; exact ZH fun c' q e => by rw [s2] at e; cases e; rw [hd]; decide
      have h2 : skipSp (skipSp R2) = d :: 40 :: (tl z ++ [41]) := by rw [XR, s2]
      rw [C_step (Qa6 s n) h1 hc py, C_step (Qa6 s n) h2 hd pz, nil1, chT, if_neg (by rw [hd]; simp)]
    · have py : Pr s n (40 :: (tl y ++ 41 :: R2)) = .ok (.mk 2 0 (mkB [d]) [y, z]) [] := by
        rw [Pr_C, oy]
        simp only
        rw [C_step (Qc6 s n) s2 hd oz, nil2]
      rw [C_step (Qa6 s n) h1 hc py, nil1, chT, if_pos ⟨hc, hd⟩]
  · rw [C_step (Qc6 s n) s1 hc oy]
    rcases hd with hd | hd
    · rw [ZH (fun c' q e => by rw [s2] at e; cases e; rw [hd]; decide)]
      simp only
      have h2 : skipSp (skipSp R2) = d :: 40 :: (tl z ++ [41]) := by rw [XR, s2]
      rw [C_step (Qa6 s n) h2 hd pz, nil1, chT, if_neg (by rw [hc]; simp)]
    · rw [C_step (Qc6 s n) s2 hd oz, nil2]
      simp only
      rw [nil1, chT, if_neg (by rw [hc]; simp)]
theorem Qhw (s : Bool) {c d : UInt8} {x y z : T} (hx : x.QmQ = true) (hy : y.QmQ = true) (hz : z.QmQ = true) (hc : ofB (mkB [c]) = 1 ∨ ofB (mkB [c]) = 2) (hd : ofB (mkB [d]) = 1 ∨ ofB (mkB [d]) = 2) (hn : (chL c d x y z).length ≤ 16384) :
    Zm s (chL c d x y z) = if ((chT c d x y z).run 200 20).1 = true then .ok (chT c d x y z) [] else .err 6 := by
  have H := fun t (h : t.QmQ = true) => (QdP s t.nds t (Nat.le_refl _) h).2.2
  rw [Zm, if_neg (by omega), QiC s (H x hx) (H y hy) (H z hz) hc hd _ (Nat.le_refl _)]
  simp only
  rw [if_neg (by simp [skipSp])]
end Go.Proofs.YtehjodmnajgdgaaGreatDoor.Ab
set_option maxRecDepth 4000
namespace Go.Proofs.YtehjodmnajgdgaaGreatDoor.Ab
open Go.Proofs
theorem Qhm (l : List UInt8) : strOfNums (l.map fun b => ((b.toNat : Nat) : Int)) = mkB l := by
  refine QaU ?_
  simp only [strOfNums, mkB, List.map_map]
  exact (List.map_congr_left fun b _ => by simp [Function.comp]).trans (List.map_id l)
theorem Qlk (l : List UInt8) (own : Option Nat) (H : AH) : QaP Tryz.prog 67 9 (.sl 1 (Yv l) own) H = some (.v (.string (mkB l))) := by
  have hb : Qee Tryz.prog 67 9 = true := by kernel_rfl
  have e : Yv l = (l.map fun b => ((b.toNat : Nat) : Int)).map fun n => AV.v (.int .u8 n) := by simp [Yv]
  unfold QaP
  rw [hb]
  simp only [YK, if_true]
  rw [e, Qfj]
  simp only [Qnn, Qhm]
theorem Zi (l : List UInt8) : (Yv l).length = l.length := List.length_map _
theorem Qe0 (a b : List UInt8) : Yv (a ++ b) = Yv a ++ Yv b := List.map_append
theorem Qi1 {l : List UInt8} {k : Nat} (h : k < l.length) : Q6 (l.take (k + 1)) = Q6 (l.take k) ++ (if (l[k]).toNat = 40 ∨ (l[k]).toNat = 41 then [32, l[k], 32, 32] else if (l[k]).toNat = 44 then [32, l[k]] else [l[k]]) := by
  rw [← List.take_append_getElem h, Zu]
  congr 1
  rw [Q6, Q6, List.append_nil]
theorem Qfl (l : List UInt8) (hl : l.length ≤ 100000) : Pure Tryz.prog 25 [.v (.string (mkB l))] (.v (.string (mkB (Q6 l)))) := by
  intro h
  have hsl := fun b => YB Tryz.prog 9 3 (by kernel_rfl) b
  have hcv := fun l own H => Qlk l own H
  refine Qe Tryz.func25 rfl Tryz.call25 Tryz.ntmps25 (congrArg Array.toList Tryz.results25) (by simp) ?_
  iterate 5 (try (first | (((with_reducible refine Qa fun K E hK hE => ?_)); simp -implicitDefEqProofs only [Qd, Qb, Qg, OpW, aop, AS.ev, Qc, QG, YG, Nat.reduceLT]) | (with_reducible refine Qh fun K hK => ?_) | ((with_reducible refine hK _ ?_); clear hK)))
  refine QhU 3 5 1 rfl ?_
  iterate 4 (try (first | (((with_reducible refine Qa fun K E hK hE => ?_)); simp -implicitDefEqProofs only [Qd, Qb, Qg, OpW, aop, AS.ev, Qc, Qn, Nat.reduceLT]) | (with_reducible refine Qq ?_) | ((with_reducible refine hK _ ?_); clear hK)))
  obtain ⟨I, hI⟩ : ∃ I : Nat → AS → Prop, I = fun m' s => ∃ k : Nat, m' = l.length - k ∧ k ≤ l.length ∧ s.tm 0 = .v (.string (mkB l)) ∧ s.tm 4 = .i k ∧ s.tm 3 = .sl 1 (Yv (Q6 (l.take k))) (some h.length) ∧ s.h = h ++ [.grow 5 1 (Q6 (l.take k)).length] := ⟨_, rfl⟩; refine XM I ?_ (m := l.length) ?_
  · intro m' s hs; rw [hI] at hs; obtain ⟨tm, hp⟩ := s; dsimp only at hs; obtain ⟨k, rfl, hk, t0, t4, t3, rfl⟩ := hs
    by_cases hlt : k < l.length
    · have hix := Qcz Tryz.prog 9 (by kernel_rfl) (mkB l) k (by rw [Xr]; exact hlt)
      rw [Qbo _ k hlt] at hix
      have z1 : (k : Int) < l.length := by omega
      have hlo := Qi1 hlt
      have hle := QdB (l.take k)
      rw [List.length_take] at hle
      generalize hc : l[k] = c at *
      have hw : IntKind.i64.wrap ((k : Int) + 1) = ((k + 1 : Nat) : Int) := Yd (by omega)
      have fin : ∀ (tm : Nat → AV) (x : List UInt8) (hp : AH), Q6 (l.take (k + 1)) = Q6 (l.take k) ++ x → tm 0 = .v (.string (mkB l)) → tm 4 = .i (k + 1 : Nat) → tm 3 = .sl 1 (Yv (Q6 (l.take k)) ++ Yv x) (some h.length) → hp = h ++ [.grow 5 1 ((Q6 (l.take k)).length + x.length)] →
          I (l.length - (k + 1)) ⟨tm, hp⟩ := fun tm x hp e a b c d => by
        rw [hI]
        exact ⟨k + 1, rfl, by omega, a, b, c.trans (by rw [e, Qe0]), d.trans (by rw [e, List.length_append])⟩
      by_cases h1 : c.toNat = 40
      · have y1 : (((c.toNat : Nat) : Int) == 40) = true := by simp [h1]
        rw [if_pos (.inl h1)] at hlo
        have m1 : (Q6 (l.take k)).length + 4 ≤ maxLen := by simp only [maxLen]; omega
        have m2 : (Q6 (l.take k)).length + 4 ≤ 140737488355328 := by omega
        repeat (first | ((first | (with_reducible (first | refine Qa fun K E hK hE => ?_ | refine Qs fun K E hK hE => ?_))); simp -implicitDefEqProofs only [Qd, Qb, Qg, OpW, aop, AS.ev, Qc, Qn, Qi, AV.QmP, QU, QnF, QnG, Qv, QnH, ↓reduceIte, Qny, Qnz, Nat.reduceAdd, Nat.reduceLT, Nat.reduceLeDiff, Nat.reduceEqDiff, Qnx, QnT, aBin, QP, aLen, Za, YK, QT, YQ, Qnl, QnP, Qnn, QnA, QnE, QS, Q0, X8, goInt, QnR, Qnt, rng4, Q2, Nat.reducePow, zi5, ei67, ai67, t0, t4, t3, hsl, Xr, z1, hix, y1, m1, m2, Zi, Nat.mul_one, hw]) | (with_reducible (first | refine Qh fun K hK => ?_ | refine Qq ?_ | refine QA ?_ | refine Qj ?_ | refine QD ?_)) | ((with_reducible refine hK _ ?_); clear hK) | (refine Qk rfl ?_; simp only [↓reduceIte]))
        exact Yr.mk (m' := l.length - (k + 1)) (by omega) (fin _ _ _ hlo t0 rfl rfl rfl)
      · have y1 : (((c.toNat : Nat) : Int) == 40) = false := by simp; omega
        by_cases h2 : c.toNat = 41
        · have y2 : (((c.toNat : Nat) : Int) == 41) = true := by simp [h2]
          rw [if_pos (.inr h2)] at hlo
          have m1 : (Q6 (l.take k)).length + 4 ≤ maxLen := by simp only [maxLen]; omega
          have m2 : (Q6 (l.take k)).length + 4 ≤ 140737488355328 := by omega
          repeat (first | ((first | (with_reducible (first | refine Qa fun K E hK hE => ?_ | refine Qs fun K E hK hE => ?_))); simp -implicitDefEqProofs only [Qd, Qb, Qg, OpW, aop, AS.ev, Qc, Qn, Qi, AV.QmP, QU, QnF, QnG, Qv, QnH, ↓reduceIte, Qny, Qnz, Nat.reduceAdd, Nat.reduceLT, Nat.reduceLeDiff, Nat.reduceEqDiff, Qnx, QnT, aBin, QP, aLen, Za, YK, QT, YQ, Qnl, QnP, Qnn, QnA, QnE, QS, Q0, X8, goInt, QnR, Qnt, rng4, Q2, Nat.reducePow, zi5, ei67, ai67, t0, t4, t3, hsl, Xr, z1, hix, y1, y2, m1, m2, Zi, Nat.mul_one, hw]) | (with_reducible (first | refine Qh fun K hK => ?_ | refine Qq ?_ | refine QA ?_ | refine Qj ?_ | refine QD ?_)) | ((with_reducible refine hK _ ?_); clear hK) | (refine Qk rfl ?_; simp only [↓reduceIte, Qnp]))
          exact Yr.mk (m' := l.length - (k + 1)) (by omega) (fin _ _ _ hlo t0 rfl rfl rfl)
        · have y2 : (((c.toNat : Nat) : Int) == 41) = false := by simp; omega
          rw [if_neg (by omega)] at hlo
          by_cases h3 : c.toNat = 44
          · have y3 : (((c.toNat : Nat) : Int) == 44) = true := by simp [h3]
            rw [if_pos h3] at hlo
            have e44 : c = 44 := UInt8.toNat_inj.1 h3
            rw [e44] at hlo
            have m1 : (Q6 (l.take k)).length + 2 ≤ maxLen := by simp only [maxLen]; omega
            have m2 : (Q6 (l.take k)).length + 2 ≤ 140737488355328 := by omega
            repeat (first | ((first | (with_reducible (first | refine Qa fun K E hK hE => ?_ | refine Qs fun K E hK hE => ?_))); simp -implicitDefEqProofs only [Qd, Qb, Qg, OpW, aop, AS.ev, Qc, Qn, Qi, AV.QmP, QU, QnF, QnG, Qv, QnH, ↓reduceIte, Qny, Qnz, Nat.reduceAdd, Nat.reduceLT, Nat.reduceLeDiff, Nat.reduceEqDiff, Qnx, QnT, aBin, QP, aLen, Za, YK, QT, YQ, Qnl, QnP, Qnn, QnA, QnE, QS, Q0, X8, goInt, QnR, Qnt, rng2, Q2, Nat.reducePow, zi5, ei67, ai67, t0, t4, t3, hsl, Xr, z1, hix, y1, y2, y3, m1, m2, Zi, Nat.mul_one, hw]) | (with_reducible (first | refine Qh fun K hK => ?_ | refine Qq ?_ | refine QA ?_ | refine Qj ?_ | refine QD ?_)) | ((with_reducible refine hK _ ?_); clear hK) | (refine Qk rfl ?_; simp only [↓reduceIte, Qnp]))
            exact Yr.mk (m' := l.length - (k + 1)) (by omega) (fin _ _ _ hlo t0 rfl rfl rfl)
          · have y3 : (((c.toNat : Nat) : Int) == 44) = false := by simp; omega
            rw [if_neg h3] at hlo
            have m1 : (Q6 (l.take k)).length + 1 ≤ maxLen := by simp only [maxLen]; omega
            have m2 : (Q6 (l.take k)).length + 1 ≤ 140737488355328 := by omega
            repeat (first | ((first | (with_reducible (first | refine Qa fun K E hK hE => ?_ | refine Qs fun K E hK hE => ?_))); simp -implicitDefEqProofs only [Qd, Qb, Qg, OpW, aop, AS.ev, Qc, Qn, Qi, AV.QmP, QU, QnF, QnG, Qv, QnH, ↓reduceIte, Qny, Qnz, Nat.reduceLT, Nat.reduceLeDiff, Nat.reduceEqDiff, Qnx, QnT, aBin, QP, aLen, Za, YK, QT, YQ, Qnl, QnP, Qnn, QnA, QnE, QS, Q0, X8, goInt, QnR, Qnt, rng1, Q2, Nat.reducePow, zi5, ei67, ai67, t0, t4, t3, hsl, Xr, z1, hix, y1, y2, y3, m1, m2, Zi, Nat.mul_one, hw]) | (with_reducible (first | refine Qh fun K hK => ?_ | refine Qq ?_ | refine QA ?_ | refine Qj ?_ | refine QD ?_)) | ((with_reducible refine hK _ ?_); clear hK) | (refine Qk rfl ?_; simp only [↓reduceIte, Qnp]))
            exact Yr.mk (m' := l.length - (k + 1)) (by omega) (fin _ _ _ hlo t0 rfl rfl rfl)
    · obtain rfl : k = l.length := by omega
      have z1 : ¬ ((l.length : Nat) : Int) < (l.length : Nat) := by omega
      rw [List.take_length] at t3
      repeat (first | (((with_reducible refine Qa fun K E hK hE => ?_)); simp -implicitDefEqProofs only [Qd, Qb, Qg, OpW, aop, AS.ev, Qc, Qi, ↓reduceIte, Nat.reduceLT, Nat.reduceEqDiff, aBin, aLen, Qnn, Q0, goInt, QnS, t0, t4, t3, hsl, Xr, z1, hcv]) | (with_reducible (first | refine Qh fun K hK => ?_ | refine Ql ?_ | refine Xj ?_ | refine Qj ?_ | refine Q9 ?_ | refine Q8 ?_)) | ((with_reducible refine hK _ ?_); clear hK) | (clear hK; (with_reducible refine hK _ ?_); clear hK) | (refine Qk rfl ?_; simp only [↓reduceIte, Qnp]))
      simp only [QI, Qm, Qu, upd, ↓reduceIte, Qnr, Qnv]; first | refine Qf (htake _ _) (.keep (.v _)) ⟨rfl, rfl⟩ | refine Qf List.take_length (.keep (.v _)) ⟨rfl, rfl⟩
  · rw [hI]
    exact ⟨0, rfl, Nat.zero_le _, rfl, rfl, rfl, rfl⟩
end Go.Proofs.YtehjodmnajgdgaaGreatDoor.Ab
set_option maxRecDepth 4000
namespace Go.Proofs.YtehjodmnajgdgaaGreatDoor.Ab
open Go.Proofs
abbrev lplp : ByteArray := { data := #[40, 40] }
abbrev rsrp : ByteArray := { data := #[41, 32, 41] }
theorem Qln (b : ByteArray) : (lplp ++ b) ++ rsrp = mkB (40 :: 40 :: (b.data.toList ++ [41, 32, 41])) := by
  refine QaU ?_
  rw [Z1, Xk, Xk]; rfl
theorem QcM {l : List UInt8} {b : ByteArray} {t : T} (e : mkB l = b) (hp : Zm false l = .ok t []) (hm : l.length ≤ 9223372036854775807) {h : AH} (hT : Tabs h) (L : AH) :
    Xd Tryz.prog 18 [.v (.string b)] (h ++ L) fun o h' => o = .ret (.tup [t.av, .i 0]) ∧ h' = h ++ L := by
  have := Qau l hm (h ++ L) (hT.app L)
  rw [hp, e] at this
  exact this
theorem Qja (t : T) (ho : t.ok) (h : AH) (hT : Tabs h) : Xd Tryz.prog 6 [t.av] h fun o h' => o = .ret (.b true) ∧ h' = h := by
  have cg : Pure Tryz.prog 9 [.sl 4 [t.av] none, .i 500] _ := Ze [t] 500 ⟨ho, trivial⟩ (by decide) (by decide)
  have ce := fun L => XJ (h ++ L) (hT.app L)
  by_cases hw : weigh 64 [t] 500 < 0
  · rw [decide_eq_true hw] at cg
    refine Qe Tryz.func6 rfl Tryz.call6 Tryz.ntmps6 (congrArg Array.toList Tryz.results6) (by simp) ?_
    repeat (first | ((first | (with_reducible (first | refine Qa fun K E hK hE => ?_ | refine Qo cg ?_ | refine FunW.ret (FunW.call (ce _)) ?_))); simp -implicitDefEqProofs only [Qd, Qb, Qg, OpW, QO, aop, undef, AS.ev, Qc, Qn, Qr, Qi, Qw, Qns, AV.QmP, QB, QnF, QnG, Qv, Qt, QM, QC, QnH, ↓reduceIte, Qny, Qnz, Nat.reduceAdd, Nat.reduceLT, Nat.reduceLeDiff, Nat.reduceEqDiff, Nat.reduceMul, Qnx, QnT, QK, QL, QP, QT, Qnl, Qnn, QnA, QnE, Qnt, rng1, Q2, Nat.reducePow, T.QmN, T.QmO, ei22, ti24, zi24, T.QmN, T.QmO]) | (with_reducible (first | refine Qh fun K hK => ?_ | refine Ql ?_ | refine Qy ?_)) | ((with_reducible refine hK _ ?_); clear hK) | (refine Qk rfl ?_; simp only [↓reduceIte]))
    simp only [QI, Qm, Qu, upd, ↓reduceIte, Qnr, Qnv]; first | refine Qf (htake _ _) (.keep (.v _)) ⟨rfl, rfl⟩ | refine Qf List.take_length (.keep (.v _)) ⟨rfl, rfl⟩
  · rw [decide_eq_false hw] at cg
    have hn := Qat hw
    have hn' : t.nds ≤ 1000000 := by simp only [ndsL] at hn; omega
    have c1 := fun L => ZR t (h ++ L) (hT.app L).1
    have cr := Xw t hn' ho
    cases hr : (t.run 200 20).1 with
    | false =>
      rw [hr] at cr
      rw [txtT, if_neg (by rw [T.QmV, hr]; decide)] at c1
      refine Qe Tryz.func6 rfl Tryz.call6 Tryz.ntmps6 (congrArg Array.toList Tryz.results6) (by simp) ?_
      repeat (first | ((first | (with_reducible (first | refine Qa fun K E hK hE => ?_ | refine Qo cg ?_ | refine Qo cr ?_ | refine FunW.ret (FunW.call (c1 _)) ?_ | refine FunW.ret (FunW.call (ce _)) ?_))); simp -implicitDefEqProofs only [Qd, Qb, Qg, OpW, QO, aop, undef, AS.ev, Qc, Qn, Qr, QG, Qi, Qw, Qns, AV.QmP, QB, QnF, QnG, Qv, Qt, QM, QC, QnH, QnJ, ↓reduceIte, Qny, Qnz, Nat.reduceAdd, Nat.reduceLT, Nat.reduceLeDiff, Nat.reduceEqDiff, Nat.reduceMul, Qnx, QnT, QK, QL, aBin, QP, QT, Qnl, Qnm, Qnn, Qnq, Qno, QnA, QnE, Xa, QY, Qnt, rng1, Q2, Nat.reducePow, T.QmN, T.QmO, ei22, ti24, zi24, T.QmN, T.QmO]) | (with_reducible (first | refine Qh fun K hK => ?_ | refine Ql ?_ | refine QA ?_ | refine Qj ?_ | refine Qy ?_)) | ((with_reducible refine hK _ ?_); clear hK) | (refine Qk rfl ?_; simp only [↓reduceIte, Qnp]))
      simp only [QI, Qm, Qu, upd, ↓reduceIte, Qnr, Qnv]; first | refine Qf (htake _ _) (.keep (.v _)) ⟨rfl, rfl⟩ | refine Qf List.take_length (.keep (.v _)) ⟨rfl, rfl⟩
    | true =>
      rw [hr] at cr
      rw [txtT, if_pos (by rw [T.QmV, hr])] at c1
      obtain ⟨r1, r2, r3⟩ := Qak hr
      obtain ⟨hx, hs0, hs1, hs2⟩ := T.Qm3 t 200 20 hr
      have hsz := T.QmY t r1
      have hsL : (tl t).length = t.txt.size := by simp [tl]
      have hlo := QdB (tl t)
      have p1 := QcM (QdJ t.txt) (Qf8 false t hr) (by have := hsL; simp only [tl] at this; omega) hT
      have cl : Pure Tryz.prog 25 [.v (.string t.txt)] (.v (.string (mkB (Q6 (tl t))))) := by
        have := Qfl (tl t) (by omega)
        rw [show mkB (tl t) = t.txt from QdJ t.txt] at this
        exact this
      have p2 := QcM (rfl : mkB (Q6 (tl t)) = _) (QhG false t hr) (by omega) hT
      have p3 := QcM (Qln t.txt).symm (Qkv false t hr) (by have := hsL; simp only [tl, Qny, Qoc, Qnz] at this ⊢; omega) hT
      have cs := Qc5 t hn'
      have hz : (t.txt.toList == ({ data := #[] } : ByteArray).toList) = false := by
        rw [Lib.toList_data, Lib.toList_data, beq_eq_false_iff_ne]
        intro e
        have : (tl t).length = 0 := by rw [tl, e]; rfl
        omega
      have a1 := fun xo yo => Xv Tryz.prog 9 xo yo lplp t.txt (by have : lplp.size = 2 := rfl; omega)
      have a2 := fun xo yo => Xv Tryz.prog 9 xo yo (lplp ++ t.txt) rsrp (by rw [QE]; have : lplp.size = 2 := rfl; have : rsrp.size = 3 := rfl; omega)
      refine Qe Tryz.func6 rfl Tryz.call6 Tryz.ntmps6 (congrArg Array.toList Tryz.results6) (by simp) ?_
      iterate 31 (try (first | ((first | (with_reducible (first | refine Qa fun K E hK hE => ?_ | refine Qo cg ?_ | refine Qo cr ?_ | refine Qo cl ?_ | refine FunW.ret (FunW.call (c1 _)) ?_ | refine FunW.ret (FunW.call (p1 _)) ?_ | refine FunW.ret (FunW.call (p2 _)) ?_ | refine FunW.ret (FunW.call (p3 _)) ?_))); simp -implicitDefEqProofs only [Qd, Qb, Qg, OpW, QO, aop, undef, AS.ev, Qc, QV, Qn, Qr, QG, Qi, Qw, Qns, AV.QmP, QB, QJ, QnF, QnG, Qv, Qt, QM, QC, QnH, QnI, ↓reduceIte, Qny, Qnz, Nat.reduceAdd, Nat.reduceLT, Nat.reduceLeDiff, Nat.reduceEqDiff, Nat.reduceMul, Qnx, QnT, QK, QL, Q5, QW, aBin, XB, QP, QT, hget, hset, hlen, happ, Qnl, Qnm, QnP, QnQ, Qnn, QnA, QnE, QnN, QnM, Xa, Qnt, rng1, Q2, Nat.reducePow, T.QmN, T.QmO, ei22, ti24, zi24, T.QmN, T.QmO, a1, a2]) | (with_reducible (first | refine Qh fun K hK => ?_ | refine QA ?_ | refine Qj ?_)) | ((with_reducible refine hK _ ?_); clear hK) | (refine Qk rfl ?_; simp only [↓reduceIte, Qnp])))
      (with_reducible refine Qa fun K E hK hE => ?_)
      (try simp only [QnW]); refine Qz 6 (fun K1 hK1 => ?_); simp -implicitDefEqProofs only [Qd, Qb, Qg, OpW, aop, AS.ev, Qc, Qn, QG, Qi, QnJ, ↓reduceIte, Nat.reduceLT, Nat.reduceEqDiff, aBin, Qnl, Qnm, Qnn, Qnq, Qno, Qnw, QnD, QS, Qa4, Qnt, hz]; refine hK1 _ ?_; clear hK1
      (try simp only [Qnu, QnC]); refine Qz 6 (fun K1 hK1 => ?_); simp -implicitDefEqProofs only [Qd, Qb, Qg, OpW, aop, AS.ev, Qc, Qn, Qi, ↓reduceIte, Nat.reduceLT, Nat.reduceEqDiff, aBin, Qnl, Qnm, Qnn, Qnq, Qno, Qnw, QnD, QS, Qnt]; refine hK1 _ ?_; clear hK1
      (try simp only [Qnu, QnC]); refine Qz 5 (fun K1 hK1 => ?_); simp -implicitDefEqProofs only [Qd, Qb, Qg, OpW, aop, AS.ev, Qc, Qn, Qi, ↓reduceIte, Qny, Qnz, Nat.reduceAdd, Nat.reduceLT, Nat.reduceEqDiff, Qnx, QnT, QK, QL, aBin, QT, hget, Qnl, Qnm, Qnn, Qnq, Qno, Qnw, QnD, QS, Qnt, T.QmN, T.QmO, ti24, T.QmN, T.QmO]; refine hK1 _ ?_; clear hK1
      (try simp only [Qnu, QnC]); refine Qz 5 (fun K1 hK1 => ?_); simp -implicitDefEqProofs only [Qb, Qg, OpW, AS.ev, Qi, ↓reduceIte, Nat.reduceEqDiff, Qnl, Qnm, Qnq, Qno, QnA, QnE, Qnw, QnD, Qnt]; (repeat ((((with_reducible refine Qo cs ?_)); simp -implicitDefEqProofs only [Qd, Qb, Qg, OpW, QO, aop, AS.ev, Qc, Qi, ↓reduceIte, Qny, Qnz, Nat.reduceAdd, Nat.reduceLT, Nat.reduceEqDiff, Qnx, QnT, QK, QL, QT, hget, Qnl, Qnm, Qnn, Qnq, Qno, Qnt, T.QmN, T.QmO, ti24, T.QmN, T.QmO]))); refine hK1 _ ?_; clear hK1
      (try simp only [Qnu, QnC]); refine Qz 5 (fun K1 hK1 => ?_); simp -implicitDefEqProofs only [Qb, Qg, OpW, AS.ev, Qi, ↓reduceIte, Nat.reduceEqDiff, Qnl, Qnm, Qnq, Qno, QnA, QnE, Qnw, QnD, Qnt]; (repeat ((((with_reducible refine Qo cs ?_)); simp -implicitDefEqProofs only [Qd, Qb, Qg, OpW, QO, aop, AS.ev, Qc, Qi, ↓reduceIte, Qny, Qnz, Nat.reduceAdd, Nat.reduceLT, Nat.reduceEqDiff, Qnx, QnT, QK, QL, QT, hget, Qnl, Qnm, Qnn, Qnq, Qno, Qnt, T.QmN, T.QmO, ti24, T.QmN, T.QmO]))); refine hK1 _ ?_; clear hK1
      (try simp only [Qnu, QnC])
      simp -implicitDefEqProofs only [Qb, Qg, OpW, AS.ev, Qi, ↓reduceIte, Nat.reduceEqDiff, Qnl, Qnm, Qnq, Qno, QnA, QnE, Qnt]
      repeat (first | ((first | (with_reducible (first | refine Qo cs ?_ | refine FunW.ret (FunW.call (ce _)) ?_))); simp -implicitDefEqProofs only [Qd, Qb, Qg, OpW, QO, aop, AS.ev, Qc, Qi, ↓reduceIte, Nat.reduceLT, Nat.reduceEqDiff, Qnl, Qnm, Qnq, Qno, QnE, Qnt]) | (with_reducible refine Ql ?_) | ((with_reducible refine hK _ ?_); clear hK))
      simp only [QI, Qm, Qu, upd, ↓reduceIte, Qnr, Qnv]; first | refine Qf (htake _ _) (.keep (.v _)) ⟨rfl, rfl⟩ | refine Qf List.take_length (.keep (.v _)) ⟨rfl, rfl⟩
end Go.Proofs.YtehjodmnajgdgaaGreatDoor.Ab
