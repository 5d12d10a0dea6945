/-
  sameInts: two lists in memory that are one list are found the same. Conditions: both can be read, and are not longer than 2^20.
-/
import Derived.Test.YthhehbcnpmjicaaLists
namespace Go.Proofs.Ythhehbcnpmjicaa
open Go Go.RowKit Bw
set_option linter.unusedVariables false
/-- A call that makes a list, behind a world that lies above W. -/
theorem over_l {P : Program} {f : FuncId} {args : Array Value} {W w : World} {l : List Int} (hb : Below W.heap.size W w)
    (h : Calls P f args w fun e w' => LRet l w e w') : Calls P f args w fun e w' => ∃ v, e = .returned v ∧ Own w' w.heap.size v l ∧ Below w.heap.size w w' ∧ Below W.heap.size W w' :=
  h.mono fun _ _ ⟨v, he, ho, h⟩ => ⟨v, he, ho, h, hb.trans (h.mono hb.size)⟩
theorem own_form {w : World} {B K : Nat} {v : Value} {l : List Int} (h : Own w B v l) (hl : l.length = K) (hK : 0 < K) :
    ∃ g cap, v = .slice (some ⟨g, 0, none⟩) K cap ∧ B ≤ g ∧ ∀ j, j < K → w.cell? ⟨g, j, none⟩ = some (.int .i64 (l.getD j 0)) := by
  subst hl
  rcases h.form with ⟨_, hn⟩ | ⟨g, cap, rfl, hg, _⟩
  · subst hn; simp at hK
  · exact ⟨g, cap, rfl, hg, fun j hj => by rw [World.ownsRow.cellAt h j (by simpa using hj), map_getD l j hj]⟩
end Go.Proofs.Ythhehbcnpmjicaa
