/-
  Instances; what is fine.
-/
import Derived.Test.YtpfcnfcnljnnlaaAbMj
import Derived.Test.YtpfcnfcnljnnlaaAbMc
set_option linter.unusedSimpArgs false
set_option linter.unusedVariables false
set_option maxHeartbeats 4000000
set_option maxRecDepth 4000
namespace Go.Proofs.Ytpfcnfcnljnnlaa.Ab
open Go.Proofs

def i64 (n : Int) : Prop := -9223372036854775808 ≤ n ∧ n ≤ 9223372036854775807

/- the numbers of a term are numbers of the machine -/
mutual
def T.ok : T → Prop
  | .mk k i n l => i64 k ∧ i64 i ∧ n.size ≤ 9223372036854775807 ∧ oks l
def oks : List T → Prop
  | [] => True
  | t :: l => t.ok ∧ oks l
end
theorem T.ok_eq (t : T) : t.ok ↔ i64 t.kind ∧ i64 t.int ∧ t.name.size ≤ 9223372036854775807 ∧ oks t.args := by cases t; simp only [T.ok, T.kind, T.int, T.name, T.args]
theorem oks_get : ∀ {l : List T} {k : Nat} (h : k < l.length), oks l → (l[k]).ok
  | t :: l, 0, _, h => h.1
  | t :: l, k + 1, h, ho => oks_get (l := l) (by simpa using h) ho.2
theorem T.av_eta (t : T) : t.av = .agg [.i t.kind, .i t.int, .v (.string t.name), .sl 4 (avs t.args) none] := by cases t; simp only [T.av, T.kind, T.int, T.name, T.args]

theorem cmpI_self (n : Int) : cmpI n n = 0 := by simp [cmpI]
theorem bytesLess_self : ∀ l : List UInt8, Op.bytesLess l l = false
  | [] => rfl
  | a :: l => by simp [Op.bytesLess, bytesLess_self l]
theorem cmpS_self (s : ByteArray) : cmpS s s = 0 := by simp [cmpS, bytesLess_self]
mutual
theorem cmpT_self : ∀ t : T, cmpT t t = 0
  | .mk k i n l => by
    have h0 : ((0 : Int) != 0) = false := rfl
    simp only [cmpT, cmpI_self, cmpS_self, cmpL_self l, h0, Bool.false_eq_true, ↓reduceIte, or3, orL, ite_self]
theorem cmpL_self : ∀ l : List T, cmpL l l = 0
  | [] => by simp [cmpL]
  | t :: l => by simp [cmpL, cmpT_self t, cmpL_self l]
end
theorem eqE_self : ∀ l : Env, eqE l l = true
  | [] => rfl
  | a :: l => by simp [eqE, cmpT_self, eqE_self l]

/-- the sum, if it is a number of the machine -/
def sumI (n k : Int) : Int := if k > 0 ∧ n > 9223372036854775807 - k ∨ k < 0 ∧ n < -9223372036854775808 - k then n else n + k
theorem leaves_sum {k n : Int} (hk : i64 k) (hn : i64 n) : (if leavesB k n = true then n else IntKind.i64.wrap (k + n)) = sumI n k := by
  unfold i64 at hk hn
  have hw := IntKind.wrap_i64 (k + n)
  simp only [leavesB, sumI, Bool.or_eq_true, Bool.and_eq_true, decide_eq_true_eq]
  generalize IntKind.i64.wrap (k + n) = c at hw
  by_cases h : k > 0 ∧ n > 9223372036854775807 - k ∨ k < 0 ∧ n < -9223372036854775808 - k
  · rw [if_pos h, if_pos (by omega)]
  · rw [if_neg h, if_neg (by omega)]
    omega

/-! instances -/
mutual
def T.inst (env : Env) (k : Int) : T → T
  | .mk kd i n l =>
    if kd = 2 then T.app n (insts env k l)
    else if kd = 1 then match idxP (fun b => b.1 == i) env with
      | some j => match env[j]? with
        | some b => b.2
        | none => T.var i
      | none => T.var (sumI i k)
    else if kd = 0 then T.num i
    else .mk kd i n l
def insts (env : Env) (k : Int) : List T → List T
  | [] => []
  | t :: l => t.inst env k :: insts env k l
end
theorem T.inst_eq (env : Env) (k : Int) (t : T) : t.inst env k =
    if t.kind = 2 then T.app t.name (insts env k t.args)
    else if t.kind = 1 then match idxP (fun b => b.1 == t.int) env with
      | some j => match env[j]? with
        | some b => b.2
        | none => T.var t.int
      | none => T.var (sumI t.int k)
    else if t.kind = 0 then T.num t.int
    else t := by
  cases t; simp only [T.inst, T.kind, T.int, T.name, T.args]; rfl
theorem insts_map (env : Env) (k : Int) : ∀ l : List T, insts env k l = l.map (T.inst env k)
  | [] => rfl
  | t :: l => by simp only [insts, List.map_cons, insts_map env k l]
theorem insts_length (env : Env) (k : Int) (l : List T) : (insts env k l).length = l.length := by rw [insts_map, List.length_map]
theorem insts_take_succ {env : Env} {k : Int} {l : List T} {j : Nat} (h : j < l.length) : insts env k (l.take (j + 1)) = insts env k (l.take j) ++ [(l[j]).inst env k] := by
  rw [insts_map, insts_map, List.take_succ_eq_append_getElem h, List.map_append]; rfl
end Go.Proofs.Ytpfcnfcnljnnlaa.Ab
