/-
  THE WALKS OF SIGNS AND SUMS, the program's and the reference's: each answers plain functions of its arguments; no condition.
-/
import Derived.Test.YteoalkgpdgoaeaaWalksC
namespace Go.Proofs.Yteoalkgpdgoaeaa
open Go Go.RowKit Bw
set_option linter.unusedVariables false
theorem beq_dec (a b : Int) : (a == b) = decide (a = b) := by by_cases h : a = b <;> simp [h]

end Go.Proofs.Yteoalkgpdgoaeaa