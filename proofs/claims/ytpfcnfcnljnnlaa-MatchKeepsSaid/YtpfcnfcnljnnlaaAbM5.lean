/-
  Insert.
-/
import Derived.Test.YtpfcnfcnljnnlaaAbM3
import Derived.Test.YtpfcnfcnljnnlaaAbM4
set_option linter.unusedSimpArgs false
set_option linter.unusedVariables false
set_option maxHeartbeats 4000000
set_option maxRecDepth 4000
namespace Go.Proofs.Ytpfcnfcnljnnlaa.Ab
open Go.Proofs

theorem insert_own (l : List (Int × T)) (f : Int × T) (h : AH) (id i : Nat) (hb : h[id]? = some (.cells 46 5 (bavs l))) (hl : l ≠ []) (hi : i ≤ l.length) (hs : l.length ≤ 1000000) :
    CallW Try.prog 69 [.arr id 0 l.length, .i i, .sl 5 [bav f] none] h fun o h' => o = .ret (.sl 5 (bavs (insL l i f)) none) ∧ h' = h.set id .dead := by
  refine callW_row hb (fun cap h1 h2 => ?_) (by simp only [maxLen]; omega)
  by_cases he : i = l.length
  · subst he
    exact insert_end l f h id cap hb hl hs h1 h2
  · by_cases hr : l.length + 1 ≤ cap
    · exact insert_room l f h id i cap hb (by omega) hs hr h2
    · have : cap = l.length := by omega
      subst this
      exact insert_grow l f h id i hb (by omega) hs

end Go.Proofs.Ytpfcnfcnljnnlaa.Ab
