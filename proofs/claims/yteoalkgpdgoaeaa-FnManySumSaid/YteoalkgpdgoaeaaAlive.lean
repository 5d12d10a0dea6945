/-
  alive: the two sums that every law asks where a draw is not valid: true. No condition.
-/
import Derived.Test.YteoalkgpdgoaeaaWalksD
import Derived.Test.YteoalkgpdgoaeaaDraws
namespace Go.Proofs.Yteoalkgpdgoaeaa
open Go Go.RowKit Bw
set_option linter.unusedVariables false
theorem alive_any (w : World) : Calls Try.prog 18 #[] w fun e w' => e = .returned (.bool true) ∧ Below w.heap.size w w' := by
  have e1 : wadd 4 9 9 = 2 := by decide
  have e2 : wnot 3 0 = 7 := by decide
  go_enter Try.func18, Try.ntmps18
  go_wp2_with (first | (go_at_call 19; refine (waddI_any _ _ _ _).mono ?_; rintro e w1 ⟨rfl, hb⟩) | (go_at_call 39; refine (wnotI_any _ _ _).mono ?_; rintro e w' ⟨rfl, rfl⟩))
  go_ret
  exact ⟨rfl, hb⟩
end Go.Proofs.Yteoalkgpdgoaeaa
