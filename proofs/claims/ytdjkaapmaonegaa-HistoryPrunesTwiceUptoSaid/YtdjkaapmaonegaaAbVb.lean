/-
  The data of the histories as plain Lean data, and as abstract values.
-/
import Derived.Test.YtdjkaapmaonegaaAbThree
import Derived.Test.YtdjkaapmaonegaaAbThree
import Derived.Test.YtdjkaapmaonegaaAbThree
set_option linter.unusedVariables false
set_option maxHeartbeats 4000000
namespace Go.Proofs.Ytdjkaapmaonegaa.Ab

abbrev AV.i (n : Int) : AV := .v (.int .i64 n)
abbrev AV.b (n : Bool) : AV := .v (.bool n)

/-- an entry: the rule, the identifiers -/
structure F where
  rule : Int
  ids : List Int
  deriving Inhabited, DecidableEq

def F.av (f : F) : AV := .agg [.v (.int .i64 f.rule), .sl 1 (ints f.ids) none]
def favs (l : List F) : List AV := l.map F.av

theorem F.av_cells (f : F) : f.av.cells = [.v (.int .i64 f.rule), .sl 1 (ints f.ids) none] := rfl
theorem F.av_isAgg (f : F) : f.av.isAgg = true := rfl
theorem favs_nil : favs [] = [] := rfl
theorem favs_one (f : F) : favs [f] = [f.av] := rfl
theorem favs_cons (f : F) (l : List F) : favs (f :: l) = f.av :: favs l := rfl
theorem favs_length (l : List F) : (favs l).length = l.length := List.length_map _
theorem favs_append (l m : List F) : favs (l ++ m) = favs l ++ favs m := List.map_append
theorem favs_get {l : List F} {k : Nat} (h : k < l.length) : (favs l)[k]? = some (l[k]).av := by
  rw [favs, List.getElem?_map, List.getElem?_eq_getElem h]; rfl
theorem favs_take (l : List F) (k : Nat) : (favs l).take k = favs (l.take k) := by simp only [favs, List.map_take]
theorem favs_drop (l : List F) (k : Nat) : (favs l).drop k = favs (l.drop k) := by simp only [favs, List.map_drop]
theorem F.av_below (n : Nat) (f : F) : Below n f.av := by
  refine .agg _ fun a ha => ?_
  simp only [List.mem_cons, List.not_mem_nil, or_false] at ha
  rcases ha with rfl | rfl
  · exact .v _
  · exact ints_below n _
theorem favs_flat (n : Nat) (l : List F) : ∀ a ∈ flat (favs l), Below n a := by
  intro a ha
  simp only [flat, favs, List.mem_flatMap, List.mem_map] at ha
  obtain ⟨x, ⟨f, _, rfl⟩, hx⟩ := ha
  rw [F.av_cells] at hx
  simp only [List.mem_cons, List.not_mem_nil, or_false] at hx
  rcases hx with rfl | rfl
  · exact .v _
  · exact ints_below n _
theorem favs_below (n : Nat) (l : List F) : Below n (.sl 2 (favs l) none) := .sl 2 _ none (favs_flat n l) (fun b hb => by cases hb)
theorem F.av_fold (r : Int) (l : List Int) : AV.agg [.v (.int .i64 r), .sl 1 (ints l) none] = F.av ⟨r, l⟩ := rfl
theorem favs_w (l : List F) : ∀ x ∈ favs l, x.cells.length = 2 := by
  intro x hx
  simp only [favs, List.mem_map] at hx
  obtain ⟨f, _, rfl⟩ := hx
  rfl

/-! ### the order -/
def cmpI (a b : Int) : Int := if a < b then -1 else if a > b then 1 else 0
def cmpZ : List Int → List Int → Int
  | [], [] => 0
  | [], _ :: _ => -1
  | _ :: _, [] => 1
  | a :: l, b :: m => if cmpI a b = 0 then cmpZ l m else cmpI a b
def orI : List Int → Int
  | [] => 0
  | a :: l => if a = 0 then orI l else a
def headC (a b : F) : Int := orI [cmpI a.rule b.rule, cmpI a.ids.length b.ids.length]
def cmpF (a b : F) : Int := if headC a b = 0 then cmpZ a.ids b.ids else headC a b
def indexI (n : Int) : List Int → Option Nat
  | [] => none
  | a :: l => if n = a then some 0 else (indexI n l).map (· + 1)

/-- is an entry valid -/
def okIds : List Int → List Int → Bool
  | _, [] => true
  | seen, n :: l => decide (1 ≤ n) && !decide (n ∈ seen) && okIds (seen ++ [n]) l
def F.ok (f : F) : Bool := decide (0 ≤ f.rule) && decide (f.rule < 40) && decide (1 ≤ f.ids.length) && decide (f.ids.length ≤ 4) && okIds [] f.ids
theorem ints_take (l : List Int) (k : Nat) : (ints l).take k = ints (l.take k) := by simp only [ints, List.map_take]
theorem ints_drop (l : List Int) (k : Nat) : (ints l).drop k = ints (l.drop k) := by simp only [ints, List.map_drop]

/-- each entry is valid and greater than the one before -/
def chain : Option F → List F → Bool
  | _, [] => true
  | none, f :: l => f.ok && chain (some f) l
  | some p, f :: l => f.ok && decide (cmpF p f < 0) && chain (some f) l
def rightL (l : List F) : Bool := decide (l.length ≤ 5000) && chain none l
def small (l : List F) : Prop := l.length ≤ 1000000 ∧ ∀ f ∈ l, f.ids.length ≤ 9223372036854775807
theorem small.get {l : List F} (h : small l) {k : Nat} (hk : k < l.length) : (l[k]).ids.length ≤ 9223372036854775807 := h.2 _ (List.getElem_mem hk)
theorem okIds_step (l : List Int) {j : Nat} (h : j < l.length) : okIds (l.take j) (l.drop j) = (decide (1 ≤ l[j]) && !decide (l[j] ∈ l.take j) && okIds (l.take (j + 1)) (l.drop (j + 1))) := by
  rw [List.drop_eq_getElem_cons h, okIds, List.take_succ_eq_append_getElem h]
def prevL (l : List F) : Nat → Option F
  | 0 => none
  | k + 1 => l[k]?
theorem chain_zero {l : List F} (h : 0 < l.length) : chain (prevL l 0) (l.drop 0) = ((l[0]).ok && chain (prevL l 1) (l.drop 1)) := by
  rw [List.drop_eq_getElem_cons h]
  show chain none _ = _
  rw [chain, prevL, List.getElem?_eq_getElem h]
theorem chain_succ {l : List F} {k : Nat} (h : k + 1 < l.length) : chain (prevL l (k + 1)) (l.drop (k + 1)) = ((l[k + 1]).ok && decide (cmpF (l[k]'(by omega)) l[k + 1] < 0) && chain (prevL l (k + 2)) (l.drop (k + 2))) := by
  rw [List.drop_eq_getElem_cons h, prevL, List.getElem?_eq_getElem (show k < l.length by omega), chain, prevL, List.getElem?_eq_getElem h]
theorem chain_end {l : List F} : chain (prevL l l.length) (l.drop l.length) = true := by
  rw [List.drop_length]; cases prevL l l.length <;> rfl
/-! ### lists of entries -/
def hasL (l : List F) (f : F) : Bool := l.any fun g => cmpF g f == 0
theorem hasL_cons (g : F) (l : List F) (f : F) : hasL (g :: l) f = ((cmpF g f == 0) || hasL l f) := rfl
def eqL : List F → List F → Bool
  | [], [] => true
  | a :: l, b :: m => (cmpF a b == 0) && eqL l m
  | _, _ => false
theorem eqL_len : ∀ {l m : List F}, l.length ≠ m.length → eqL l m = false
  | [], [], h => absurd rfl h
  | [], _ :: _, _ => rfl
  | _ :: _, [], _ => rfl
  | a :: l, b :: m, h => by rw [eqL, eqL_len (by simpa using h), Bool.and_false]
def sumIds : List F → Nat
  | [] => 0
  | f :: l => f.ids.length + sumIds l
theorem sumIds_append (l m : List F) : sumIds (l ++ m) = sumIds l + sumIds m := by
  induction l with
  | nil => simp [sumIds]
  | cons t l ih => simp only [List.cons_append, sumIds, ih]; omega
theorem sumIds_take_succ {l : List F} {k : Nat} (h : k < l.length) : sumIds (l.take (k + 1)) = sumIds (l.take k) + (l[k]).ids.length := by
  rw [List.take_succ_eq_append_getElem h, sumIds_append]; simp [sumIds]
theorem sumIds_take_le (l : List F) (k : Nat) : sumIds (l.take k) ≤ sumIds l := by
  have := sumIds_append (l.take k) (l.drop k)
  rw [List.take_append_drop] at this
  omega
theorem sumIds_mem {l : List F} {f : F} (h : f ∈ l) : f.ids.length ≤ sumIds l := by
  induction l with
  | nil => cases h
  | cons g l ih =>
    simp only [sumIds]
    rcases List.mem_cons.1 h with rfl | h
    · omega
    · have := ih h; omega
def total (l : List F) : Nat := l.length + sumIds l
def fits (l : List F) : Prop := ∀ f ∈ l, f.ids.length ≤ 9223372036854775807
theorem small_of_total {l : List F} {n : Nat} (h : total l ≤ n) (hn : n ≤ 1000000) : small l := by
  unfold total at h
  exact ⟨by omega, fun f hf => by have := sumIds_mem hf; omega⟩
/-- what Great counts (numbers of the machine) -/
def gw (most : Int) : List F → Int → Int
  | [], n => n
  | f :: l, n => if n ≤ most then gw most l (IntKind.i64.wrap (n + f.ids.length)) else n
def greatB (l : List F) (most : Int) : Bool := decide (gw most l l.length > most)
theorem gw_le {most : Int} : ∀ {l : List F} {n : Int}, gw most l n ≤ most → n ≤ most
  | [], n, h => h
  | f :: l, n, h => by
    rw [gw] at h
    split at h
    · assumption
    · exact h
theorem small_of_great {l : List F} {most : Int} (hf : fits l) (h : ¬ gw most l l.length > most) (hm : most ≤ 1000000) : small l ∧ (l.length : Int) ≤ most := by
  have := gw_le (most := most) (l := l) (n := l.length) (by omega)
  exact ⟨⟨by omega, hf⟩, this⟩
/-! ### sets of numbers as maps; pruning -/
def kmap (ks : List Int) : List (Value × AV) := imap (ks.map fun k => (k, .v (.bool true)))
def addK (ks : List Int) (k : Int) : List Int := if k ∈ ks then ks else ks ++ [k]
def keysOf (l : List Int) : List Int := l.foldl addK []
theorem keysOf_take_succ {l : List Int} {k : Nat} (h : k < l.length) : keysOf (l.take (k + 1)) = addK (keysOf (l.take k)) l[k] := by
  rw [List.take_succ_eq_append_getElem h, keysOf, List.foldl_append]; rfl
theorem mem_addK {ks : List Int} {k x : Int} : x ∈ addK ks k ↔ x ∈ ks ∨ x = k := by
  unfold addK
  split
  · exact ⟨.inl, fun h => h.elim id fun e => e ▸ ‹_›⟩
  · simp
theorem mem_foldK (l : List Int) : ∀ (ks : List Int) (x : Int), x ∈ l.foldl addK ks ↔ x ∈ ks ∨ x ∈ l := by
  induction l with
  | nil => intro ks x; simp
  | cons a l ih => intro ks x; rw [List.foldl_cons, ih, mem_addK]; simp [or_assoc]
theorem mem_keysOf {l : List Int} {x : Int} : x ∈ keysOf l ↔ x ∈ l := by
  rw [keysOf, mem_foldK]; simp
theorem find_kmap (ks : List Int) (k : Int) : findA (.int .i64) (.int .i64 k) (kmap ks) = some (if k ∈ ks then some (.v (.bool true)) else none) := by
  rw [kmap, findA_int]
  congr 1
  induction ks with
  | nil => rfl
  | cons a ks ih =>
    rw [List.map_cons, igetA]
    by_cases h : k = a
    · rw [if_pos h, if_pos (by simp [h])]
    · rw [if_neg h, ih]
      simp [h]
theorem upd_kmap (k : Int) : ∀ ks : List Int, updA (.int .i64) (.int .i64 k) (.v (.bool true)) (kmap ks) = some (kmap (addK ks k))
  | [] => rfl
  | a :: ks => by
    have e : kmap (a :: ks) = (ikey a, .v (.bool true)) :: kmap ks := rfl
    rw [e, updA]
    rw [show Instr.sameNow (.int .i64) (.int .i64 k) (ikey a) = some (k == a) from rfl]
    by_cases h : k = a
    · subst h
      simp [addK, e, ikey]
    · have hb : (k == a) = false := by simpa using h
      simp only [hb, upd_kmap k ks, Option.map_some]
      congr 1
      unfold addK
      by_cases hm : k ∈ ks
      · rw [if_pos hm, if_pos (by simp [hm]), e]
      · rw [if_neg hm, if_neg (by simp [h, hm])]; rfl

def within (ids : List Int) (f : F) : Bool := f.ids.all fun x => decide (x ∈ ids)
def pruneL (l : List F) (ids : List Int) : List F := l.filter (within ids)
theorem pruneL_take_succ {l : List F} {ids : List Int} {k : Nat} (h : k < l.length) : pruneL (l.take (k + 1)) ids = pruneL (l.take k) ids ++ (if within ids l[k] = true then [l[k]] else []) := by
  rw [List.take_succ_eq_append_getElem h, pruneL, List.filter_append]
  congr 1
  by_cases hw : within ids l[k] = true
  · rw [if_pos hw, List.filter_cons_of_pos hw]; rfl
  · rw [if_neg hw, List.filter_cons_of_neg hw]; rfl
/-! ### calls that change the heap; rows -/
theorem callH_ret {P : Program} {N c : Nat} {fv : AV} {args : List AV} {s : AS} {d : Option Tmp} {K : AS → Prop} {r : AV} {h' : AH} (H : FunW P fv args s.h fun o h2 => o = .ret r ∧ h2 = h') (hk : c = 3 → Keep s.h h') (k : K (AS.put N { s with h := h' } d r)) : CallH P N c fv args s d K := ⟨r, h', H, hk, k⟩
theorem FunW.call {P : Program} {f : FuncId} {args : List AV} {h : AH} {Q : AOut → AH → Prop} (H : CallW P f args h Q) : FunW P (.fn (.func f) [] []) args h Q := FunW.fn (by rw [List.nil_append, List.append_nil]; exact H)
theorem FunW.ret {P : Program} {fv : AV} {args : List AV} {h h' : AH} {r : AV} {Q : AOut → AH → Prop} (H : FunW P fv args h fun o h2 => o = .ret r ∧ h2 = h') (k : Q (.ret r) h') : FunW P fv args h Q := H.mono (by rintro _ _ ⟨rfl, rfl⟩; exact k)

/-- an element put in -/
def insL (l : List F) (i : Nat) (f : F) : List F := l.take i ++ [f] ++ l.drop i

/-- how many entries are less -/
def lb (l : List F) (f : F) : Nat := (l.takeWhile fun g => decide (cmpF g f < 0)).length
def mono (l : List F) (f : F) : Prop := ∀ (i j : Nat) (hi : i < l.length) (hj : j < l.length), i ≤ j → cmpF l[j] f < 0 → cmpF l[i] f < 0
theorem lb_eq {f : F} : ∀ {l : List F} {k : Nat}, k ≤ l.length → (∀ i (hi : i < l.length), i < k → cmpF l[i] f < 0) → (∀ hk : k < l.length, ¬ cmpF l[k] f < 0) → lb l f = k
  | [], k, h, _, _ => by simp at h; subst h; rfl
  | g :: l, 0, _, _, h2 => by
    have := h2 (by simp)
    simp only [List.getElem_cons_zero] at this
    simp [lb, List.takeWhile_cons, this]
  | g :: l, k + 1, h, h1, h2 => by
    have h0 := h1 0 (by simp) (by omega)
    simp only [List.getElem_cons_zero] at h0
    have ih := lb_eq (f := f) (l := l) (k := k) (by simpa using h) (fun i hi hk => by
      have := h1 (i + 1) (by simpa using hi) (by omega)
      simpa using this) (fun hk => by
      have := h2 (by simpa using hk)
      simpa using this)
    unfold lb at ih ⊢
    rw [List.takeWhile_cons, if_pos (by simpa using h0), List.length_cons, ih]
/-- is the entry at the place of the search -/
def foundL (l : List F) (f : F) : Bool := match l[lb l f]? with | some g => cmpF g f == 0 | none => false
end Go.Proofs.Ytdjkaapmaonegaa.Ab
