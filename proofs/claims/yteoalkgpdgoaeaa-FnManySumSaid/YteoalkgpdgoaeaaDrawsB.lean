/-
  THE WALKS OF THE DRAWS THAT HAND BACK A LIST: whatever the code says: numbers in their range, a short list; nothing that was there is written. No condition on the code.
-/
import Derived.Test.YteoalkgpdgoaeaaDraws
import Derived.Test.YteoalkgpdgoaeaaListsB
namespace Go.Proofs.Yteoalkgpdgoaeaa
open Go Go.RowKit Bw
set_option linter.unusedVariables false
theorem Own.grownG {w w' : World} {B g : Nat} {v : Value} {l : List Int} (h : Own w B v l) (hg : w.grownBy w' (some g)) (hB : g < B) : Own w' B v l := by
  refine ⟨h.1, ?_⟩
  rcases h.2 with h | ⟨b, cap, cur, hv, hb, hh, r⟩
  · exact .inl h
  · exact .inr ⟨b, cap, cur, hv, hb, (hg.block b (Array.getElem?_eq_some_iff.1 hh).1 (fun e => by cases e; omega)).trans hh, r⟩
/-- What a draw of three numbers and a list, or of a number and a list, hands back. -/
def DrewL3 (w : World) (e : Ending) (w' : World) : Prop := ∃ (k x y : Int) (v : Value) (l : List Int), e = .returned (.tuple #[.int .i64 k, .int .i64 x, .int .i64 y, v]) ∧ (-1 ≤ k ∧ k ≤ 13) ∧ (-1 ≤ x ∧ x ≤ 4096) ∧ (-1 ≤ y ∧ y ≤ 4096) ∧ Rd w' v l ∧ l.length ≤ 60 ∧ Below w.heap.size w w'
theorem drewL3 {k x y : Int} {v : Value} {l : List Int} {w w' : World} (hk : -1 ≤ k ∧ k ≤ 13) (hx : -1 ≤ x ∧ x ≤ 4096) (hy : -1 ≤ y ∧ y ≤ 4096) (hr : Rd w' v l) (hl : l.length ≤ 60) (hb : Below w.heap.size w w') :
    DrewL3 w (.returned (.tuple #[.int .i64 k, .int .i64 x, .int .i64 y, v])) w' := ⟨k, x, y, v, l, rfl, hk, hx, hy, hr, hl, hb⟩
def DrewL1 (w : World) (e : Ending) (w' : World) : Prop := ∃ (k : Int) (v : Value) (l : List Int), e = .returned (.tuple #[.int .i64 k, v]) ∧ (-1 ≤ k ∧ k ≤ 13) ∧ Rd w' v l ∧ l.length ≤ 60 ∧ Below w.heap.size w w'
theorem drewL1 {k : Int} {v : Value} {l : List Int} {w w' : World} (hk : -1 ≤ k ∧ k ≤ 13) (hr : Rd w' v l) (hl : l.length ≤ 60) (hb : Below w.heap.size w w') :
    DrewL1 w (.returned (.tuple #[.int .i64 k, v])) w' := ⟨k, v, l, rfl, hk, hr, hl, hb⟩
/-- Behind an append in a draw. -/
theorem push_st {W wr w1 : World} {g M : Nat} {v v' : Value} {l : List Int} {x : Int} {o : Obj} (hs : St W wr g M) (hown : Own wr (g + 1) v l)
    (hown' : w1.ownsRow (g + 1) 3 1 v' (l.length + 1) (l.map (Value.int .i64) ++ [.int .i64 x])) (hgrow : (wr.alloc o).grownBy w1 v.ownBlock) : Own w1 (g + 1) v' (l ++ [x]) ∧ St W w1 g M := by
  refine ⟨by unfold Own; simpa using hown', (hs.alloc o).grown hgrow fun k hk => ?_⟩
  have h1 := hs.1
  have h2 := hown.lt k hk
  omega
end Go.Proofs.Yteoalkgpdgoaeaa
