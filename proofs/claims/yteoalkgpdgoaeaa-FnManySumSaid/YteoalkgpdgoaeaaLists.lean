/-
  LISTS OF NUMBERS IN MEMORY: a list that a call has made ('Own'), a list that can be read ('Rd'); how both are kept; the walks of the laws' helpers that compare, mark and look again. Conditions: as the premises name them.
-/
import Derived.Test.YteoalkgpdgoaeaaWalksC
import Derived.StillTailTactics
import Derived.Carry
import Derived.Deep.RegionHeld3
namespace Go.Proofs.Yteoalkgpdgoaeaa
open Go Go.RowKit Bw
set_option linter.unusedVariables false

theorem info_int : (Try.prog.info? 3).map (fun i => (i.zero, i.size, i.bytes)) = some (some (.int .i64 0), 1, 8) := by kernel_rfl

def Own (w : World) (B : Nat) (v : Value) (l : List Int) : Prop := w.ownsRow B 3 1 v l.length (l.map (Value.int .i64))
def Rd (w : World) (v : Value) (l : List Int) : Prop :=
  (v = .slice none 0 0 ∧ l = []) ∨ ∃ b cap, v = .slice (some ⟨b, 0, none⟩) l.length cap ∧ b < w.heap.size ∧ ∀ j, j < l.length → w.cell? ⟨b, j, none⟩ = some (.int .i64 (l.getD j 0))
/-- What a call that makes a list hands back. -/
def LRet (l : List Int) (w : World) (e : Ending) (w' : World) : Prop := ∃ v, e = .returned v ∧ Own w' w.heap.size v l ∧ Below w.heap.size w w'

theorem Own.nil (w : World) (B : Nat) : Own w B (.slice none 0 0) [] := World.ownsRow_nil _ _ _ _
theorem Own.made (w : World) (B : Nat) (hB : B ≤ w.heap.size) : Own (w.alloc (.cells #[] 3)) B (.slice (some ⟨w.heap.size, 0, none⟩) 0 0) [] :=
  World.ownsRow_made w #[] 0 hB (by simp [maxLen]) (by simp)
theorem Own.one (w : World) (B : Nat) (hB : B ≤ w.heap.size) (x : Int) : Own (w.alloc (.cells #[.int .i64 x] 3)) B (.slice (some ⟨w.heap.size, 0, none⟩) 1 1) [x] :=
  ⟨by simp, .inr ⟨w.heap.size, 1, _, rfl, hB, by exact (MapKept.heap_alloc w _).1, Nat.le_refl _, by simp [maxLen], by simp, by simp⟩⟩
theorem Own.base {w : World} {B B' : Nat} {v : Value} {l : List Int} (h : Own w B v l) (hB : B' ≤ B) : Own w B' v l := by
  refine ⟨h.1, ?_⟩
  rcases h.2 with h | ⟨g, cap, cur, hv, hg, r⟩
  · exact .inl h
  · exact .inr ⟨g, cap, cur, hv, Nat.le_trans hB hg, r⟩
theorem Own.form {w : World} {B : Nat} {v : Value} {l : List Int} (h : Own w B v l) :
    (v = .slice none 0 0 ∧ l = []) ∨ ∃ g cap, v = .slice (some ⟨g, 0, none⟩) l.length cap ∧ B ≤ g ∧ g < w.heap.size := by
  rcases h.2 with ⟨hv, hn⟩ | ⟨g, cap, cur, hv, hg, hh, _⟩
  · exact .inl ⟨hv, List.length_eq_zero_iff.mp hn⟩
  · exact .inr ⟨g, cap, hv, hg, (Array.getElem?_eq_some_iff.1 hh).1⟩
theorem map_getD (l : List Int) (j : Nat) (h : j < l.length) : (l.map (Value.int .i64))[j]? = some (.int .i64 (l.getD j 0)) := by simp [List.getD, h]
theorem Own.rd {w : World} {B : Nat} {v : Value} {l : List Int} (h : Own w B v l) : Rd w v l := by
  rcases h.form with ⟨hv, hl⟩ | ⟨g, cap, hv, _, hg⟩
  · exact .inl ⟨hv, hl⟩
  · subst hv
    refine .inr ⟨g, cap, rfl, hg, fun j hj => ?_⟩
    rw [World.ownsRow.cellAt h j (by simpa using hj), map_getD l j hj]
theorem Rd.below {w w' : World} {v : Value} {l : List Int} (h : Rd w v l) (hb : Below w.heap.size w w') : Rd w' v l := by
  rcases h with h | ⟨b, cap, hv, hlt, hc⟩
  · exact .inl h
  · exact .inr ⟨b, cap, hv, Nat.lt_of_lt_of_le hlt hb.size, fun j hj => (hb.cell (p := ⟨b, j, none⟩) hlt).trans (hc j hj)⟩
theorem Rd.grown {w w' : World} {row : Option Nat} {v : Value} {l : List Int} (h : Rd w v l) (hg : w.grownBy w' row) (hne : ∀ k, v.ownBlock = some k → row ≠ some k) : Rd w' v l := by
  rcases h with h | ⟨b, cap, hv, hlt, hc⟩
  · exact .inl h
  · refine .inr ⟨b, cap, hv, Nat.lt_of_lt_of_le hlt hg.size, fun j hj => hg.cell (hc j hj) ?_⟩
    exact fun e => hne b (by rw [hv]; rfl) e.symm
theorem Own.kept_below {w w' : World} {B : Nat} {v : Value} {l : List Int} (h : Own w B v l) (hb : Below w.heap.size w w') : Own w' B v l := by
  refine ⟨h.1, ?_⟩
  rcases h.2 with h | ⟨g, cap, cur, hv, hg, hh, r⟩
  · exact .inl h
  · exact .inr ⟨g, cap, cur, hv, hg, (hb.block g (Array.getElem?_eq_some_iff.1 hh).1).trans hh, r⟩
theorem Own.lt {w : World} {B : Nat} {v : Value} {l : List Int} (h : Own w B v l) : ∀ k, v.ownBlock = some k → B ≤ k ∧ k < w.heap.size := World.ownsRow.lt h
/-- Behind an append of one number. -/
theorem push_rel {w wr w1 : World} {B : Nat} {v v' : Value} {l : List Int} {x : Int} {o : Obj} (hnx : Below B w wr) (hB : B ≤ wr.heap.size) (hown : Own wr B v l)
    (hown' : w1.ownsRow B 3 1 v' (l.length + 1) (l.map (Value.int .i64) ++ [.int .i64 x])) (hgrow : (wr.alloc o).grownBy w1 v.ownBlock) : Own w1 B v' (l ++ [x]) ∧ Below B w w1 := by
  refine ⟨by unfold Own; simpa using hown', (hnx.alloc hB o).grown hgrow (by simp; omega) (fun j hj => (hown.lt j hj).1)⟩
theorem below_len {B : Nat} {w w' : World} (h : Below B w w') (hB : B = w.heap.size) : B ≤ w'.heap.size := hB ▸ h.size

/-! ### the laws' helpers -/
def marks (k : Int) (n : Nat) : List Int := (List.range n).map fun (i : Nat) => k + (i : Int)
theorem marks_len (k : Int) (n : Nat) : (marks k n).length = n := by simp [marks]
theorem marks_get (k : Int) (n j : Nat) (h : j < n) : (marks k n).getD j 0 = k + j := by simp [marks, List.getD, h]


/-- The list behind i rounds of marking. -/
def half (k : Int) (l : List Int) (i : Nat) : List Int := marks k i ++ l.drop i
theorem half_len (k : Int) (l : List Int) (i : Nat) (h : i ≤ l.length) : (half k l i).length = l.length := by simp [half, marks]; omega
theorem half_0 (k : Int) (l : List Int) : half k l 0 = l := by simp [half, marks]
theorem half_all (k : Int) (l : List Int) : half k l l.length = marks k l.length := by simp [half]
theorem half_set (k : Int) (l : List Int) (i : Nat) (h : i < l.length) : (half k l i).set i (k + i) = half k l (i + 1) := by
  unfold half
  rw [List.set_append_right _ _ (by simp [marks]), marks_len, Nat.sub_self]
  have e : marks k (i + 1) = marks k i ++ [k + (i : Int)] := by simp [marks, List.range_succ]
  rw [e, List.append_assoc]
  congr 1
  rw [List.drop_eq_getElem_cons h]; rfl
end Go.Proofs.Yteoalkgpdgoaeaa
