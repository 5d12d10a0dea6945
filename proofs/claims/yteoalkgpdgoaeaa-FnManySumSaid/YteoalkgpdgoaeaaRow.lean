/-
  WHAT A WALK IS TOLD OF A SLICE OF NUMBERS THAT CAME IN, after the guide's shell. No condition.
-/
import Derived.Test.YteoalkgpdgoaeaaLeaf
import Derived.OpenShut
namespace Go.Proofs.Yteoalkgpdgoaeaa
open Go Go.RowKit
/-- A slice of numbers that came in: it is nil, or it leads to a row of 'cap' cells. -/
def IsRow (k : IntKind) (w : World) (a : Option Addr) (len cap : Nat) (zs : List Int) : Prop :=
  (a = none ∧ len = 0 ∧ cap = 0 ∧ zs = []) ∨
  ∃ x, a = some x ∧ len ≤ cap ∧ cap ≤ maxLen ∧ zs.length = cap ∧ (∀ i, i < zs.length → w.cell? (x.add i) = some (.int k (zs.getD i 0))) ∧ ∀ n ∈ zs, (Lit.int k n).wf = true
theorem getD_mem (zs : List Int) (i : Nat) (h : i < zs.length) : zs.getD i 0 ∈ zs := by
  have e : zs.getD i 0 = zs[i] := by simp [List.getD, h]
  rw [e]; exact List.getElem_mem h
theorem wf_u8 {n : Int} (h : (Lit.int .u8 n).wf = true) : 0 ≤ n ∧ n ≤ 255 := by
  simp [Lit.wf, IntKind.min, IntKind.max, IntKind.signed, IntKind.bits] at h; omega
/-- Its elements, at their places. -/
theorem IsRow.open_ {k : IntKind} {w : World} {a : Option Addr} {len cap : Nat} {zs : List Int} (h : IsRow k w a len cap zs) :
    len ≤ cap ∧ cap ≤ maxLen ∧ (len = 0 ∨ ∃ b off, a = some ⟨b, off, none⟩ ∧ b < w.heap.size ∧ ∀ j, j < len → w.cell? ⟨b, off + j, none⟩ = some (.int k (zs.getD j 0)) ∧ (Lit.int k (zs.getD j 0)).wf = true) := by
  rcases h with ⟨_, h1, h2, _⟩ | ⟨x, ha, h1, h2, hz, hc, hw⟩
  · exact ⟨by omega, by simp [h2], .inl h1⟩
  · refine ⟨h1, h2, ?_⟩
    by_cases h0 : len = 0
    · exact .inl h0
    · right
      obtain ⟨b, off, spot⟩ := x
      have hc0 := hc 0 (by omega)
      have hspot : spot = none := by simpa [Addr.add] using World.cell?_spot hc0
      subst hspot
      refine ⟨b, off, ha, ?_, fun j hj => ⟨(Addr.add_lit b off j ▸ hc j (by omega)), hw _ (getD_mem zs j (by omega))⟩⟩
      have := World.block_lt_of_cell? w _ hc0
      simpa [Addr.add] using this
end Go.Proofs.Yteoalkgpdgoaeaa
