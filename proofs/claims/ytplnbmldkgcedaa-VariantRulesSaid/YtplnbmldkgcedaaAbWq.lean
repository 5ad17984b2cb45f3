/-
  A term compares equal with itself.
-/
import Derived.Test.YtplnbmldkgcedaaAbWp
set_option linter.unusedVariables false
set_option maxHeartbeats 4000000
namespace Go.Proofs.Ytplnbmldkgcedaa.Ab

theorem cmpI_self (n : Int) : cmpI n n = 0 := by simp [cmpI]
theorem bytesLess_self : ∀ l : List UInt8, Op.bytesLess l l = false
  | [] => rfl
  | a :: l => by simp [Op.bytesLess, bytesLess_self l]
theorem cmpS_self (s : ByteArray) : cmpS s s = 0 := by simp [cmpS, bytesLess_self]
mutual
theorem cmpT_self : ∀ t : T, cmpT t t = 0
  | .mk k i n l => by
    have h0 : ((0 : Int) != 0) = false := rfl
    simp only [cmpT, cmpI_self, cmpS_self, cmpL_self l, h0, Bool.false_eq_true, ↓reduceIte, or3, orL, ite_self]
theorem cmpL_self : ∀ l : List T, cmpL l l = 0
  | [] => by simp [cmpL]
  | t :: l => by simp [cmpL, cmpT_self t, cmpL_self l]
end

end Go.Proofs.Ytplnbmldkgcedaa.Ab
