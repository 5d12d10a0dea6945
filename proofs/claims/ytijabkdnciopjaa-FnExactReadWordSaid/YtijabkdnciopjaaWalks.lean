/-
  THE WALKS OF THE WORDS' FUNCTIONS, the program's and the reference's: each answers one plain function of its arguments; no condition.
-/
import Derived.Test.YtijabkdnciopjaaLeaf
import Derived.Test.YtijabkdnciopjaaWordLaws
namespace Go.Proofs.Ytijabkdnciopjaa
open Go Go.RowKit Bw
set_option linter.unusedVariables false
theorem v2_bd {k a b : Int} (h : v2 k a b = true) : 1 ≤ k ∧ k ≤ 12 ∧ 0 ≤ a ∧ a < pw k ∧ 0 ≤ b ∧ b < pw k ∧ pw k ≤ 4096 := by
  obtain ⟨ha, hb⟩ := v2_iff.mp h
  obtain ⟨h1, h2, h3, h4⟩ := vX_iff.mp ha
  obtain ⟨_, _, h5, h6⟩ := vX_iff.mp hb
  exact ⟨h1, h2, h3, h4, h5, h6, pw_le12 h2⟩
theorem vX_bd {k a : Int} (h : vX k a = true) : 1 ≤ k ∧ k ≤ 12 ∧ 0 ≤ a ∧ a < pw k ∧ pw k ≤ 4096 := by
  obtain ⟨h1, h2, h3, h4⟩ := vX_iff.mp h
  exact ⟨h1, h2, h3, h4, pw_le12 h2⟩
theorem mul_bd {a b : Int} (h0 : 0 ≤ a) (h1 : a < 4096) (h2 : 0 ≤ b) (h3 : b < 4096) : 0 ≤ a * b ∧ a * b ≤ 16777216 := by
  have h7 : a * b ≤ 4096 * b := Int.mul_le_mul_of_nonneg_right (by omega) h2
  exact ⟨Int.mul_nonneg h0 h2, by omega⟩








end Go.Proofs.Ytijabkdnciopjaa