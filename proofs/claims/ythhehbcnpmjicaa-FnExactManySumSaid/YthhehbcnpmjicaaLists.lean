/-
  LISTS OF NUMBERS IN MEMORY: a list that a call has made ('Own'), a list that can be read ('Rd'); how both are kept; the walks of the laws' helpers that compare, mark and look again. Conditions: as the premises name them.
-/
import Derived.Test.YthhehbcnpmjicaaWalksC
import Derived.StillTailTactics
import Derived.Carry
import Derived.Deep.RegionHeld3
namespace Go.Proofs.Ythhehbcnpmjicaa
open Go Go.RowKit Bw
set_option linter.unusedVariables false

theorem info_int : (Try.prog.info? 3).map (fun i => (i.zero, i.size, i.bytes)) = some (some (.int .i64 0), 1, 8) := by kernel_rfl

def Own (w : World) (B : Nat) (v : Value) (l : List Int) : Prop := w.ownsRow B 3 1 v l.length (l.map (Value.int .i64))
def Rd (w : World) (v : Value) (l : List Int) : Prop :=
  (v = .slice none 0 0 ∧ l = []) ∨ ∃ b cap, v = .slice (some ⟨b, 0, none⟩) l.length cap ∧ b < w.heap.size ∧ ∀ j, j < l.length → w.cell? ⟨b, j, none⟩ = some (.int .i64 (l.getD j 0))
/-- What a call that makes a list hands back. -/
def LRet (l : List Int) (w : World) (e : Ending) (w' : World) : Prop := ∃ v, e = .returned v ∧ Own w' w.heap.size v l ∧ Below w.heap.size w w'

theorem Own.nil (w : World) (B : Nat) : Own w B (.slice none 0 0) [] := World.ownsRow_nil _ _ _ _
theorem Own.made (w : World) (B : Nat) (hB : B ≤ w.heap.size) : Own (w.alloc (.cells #[] 3)) B (.slice (some ⟨w.heap.size, 0, none⟩) 0 0) [] :=
  World.ownsRow_made w #[] 0 hB (by simp [maxLen]) (by simp)
theorem Own.one (w : World) (B : Nat) (hB : B ≤ w.heap.size) (x : Int) : Own (w.alloc (.cells #[.int .i64 x] 3)) B (.slice (some ⟨w.heap.size, 0, none⟩) 1 1) [x] :=
  ⟨by simp, .inr ⟨w.heap.size, 1, _, rfl, hB, by exact (MapKept.heap_alloc w _).1, Nat.le_refl _, by simp [maxLen], by simp, by simp⟩⟩
theorem Own.base {w : World} {B B' : Nat} {v : Value} {l : List Int} (h : Own w B v l) (hB : B' ≤ B) : Own w B' v l := by
  refine ⟨h.1, ?_⟩
  rcases h.2 with h | ⟨g, cap, cur, hv, hg, r⟩
  · exact .inl h
  · exact .inr ⟨g, cap, cur, hv, Nat.le_trans hB hg, r⟩
theorem Own.form {w : World} {B : Nat} {v : Value} {l : List Int} (h : Own w B v l) :
    (v = .slice none 0 0 ∧ l = []) ∨ ∃ g cap, v = .slice (some ⟨g, 0, none⟩) l.length cap ∧ B ≤ g ∧ g < w.heap.size := by
  rcases h.2 with ⟨hv, hn⟩ | ⟨g, cap, cur, hv, hg, hh, _⟩
  · exact .inl ⟨hv, List.length_eq_zero_iff.mp hn⟩
  · exact .inr ⟨g, cap, hv, hg, (Array.getElem?_eq_some_iff.1 hh).1⟩
theorem map_getD (l : List Int) (j : Nat) (h : j < l.length) : (l.map (Value.int .i64))[j]? = some (.int .i64 (l.getD j 0)) := by simp [List.getD, h]
theorem Own.rd {w : World} {B : Nat} {v : Value} {l : List Int} (h : Own w B v l) : Rd w v l := by
  rcases h.form with ⟨hv, hl⟩ | ⟨g, cap, hv, _, hg⟩
  · exact .inl ⟨hv, hl⟩
  · subst hv
    refine .inr ⟨g, cap, rfl, hg, fun j hj => ?_⟩
    rw [World.ownsRow.cellAt h j (by simpa using hj), map_getD l j hj]
theorem Rd.below {w w' : World} {v : Value} {l : List Int} (h : Rd w v l) (hb : Below w.heap.size w w') : Rd w' v l := by
  rcases h with h | ⟨b, cap, hv, hlt, hc⟩
  · exact .inl h
  · exact .inr ⟨b, cap, hv, Nat.lt_of_lt_of_le hlt hb.size, fun j hj => (hb.cell (p := ⟨b, j, none⟩) hlt).trans (hc j hj)⟩
theorem Rd.grown {w w' : World} {row : Option Nat} {v : Value} {l : List Int} (h : Rd w v l) (hg : w.grownBy w' row) (hne : ∀ k, v.ownBlock = some k → row ≠ some k) : Rd w' v l := by
  rcases h with h | ⟨b, cap, hv, hlt, hc⟩
  · exact .inl h
  · refine .inr ⟨b, cap, hv, Nat.lt_of_lt_of_le hlt hg.size, fun j hj => hg.cell (hc j hj) ?_⟩
    exact fun e => hne b (by rw [hv]; rfl) e.symm
theorem Own.kept_below {w w' : World} {B : Nat} {v : Value} {l : List Int} (h : Own w B v l) (hb : Below w.heap.size w w') : Own w' B v l := by
  refine ⟨h.1, ?_⟩
  rcases h.2 with h | ⟨g, cap, cur, hv, hg, hh, r⟩
  · exact .inl h
  · exact .inr ⟨g, cap, cur, hv, hg, (hb.block g (Array.getElem?_eq_some_iff.1 hh).1).trans hh, r⟩
theorem Own.lt {w : World} {B : Nat} {v : Value} {l : List Int} (h : Own w B v l) : ∀ k, v.ownBlock = some k → B ≤ k ∧ k < w.heap.size := World.ownsRow.lt h
/-- Behind an append of one number. -/
theorem push_rel {w wr w1 : World} {B : Nat} {v v' : Value} {l : List Int} {x : Int} {o : Obj} (hnx : Below B w wr) (hB : B ≤ wr.heap.size) (hown : Own wr B v l)
    (hown' : w1.ownsRow B 3 1 v' (l.length + 1) (l.map (Value.int .i64) ++ [.int .i64 x])) (hgrow : (wr.alloc o).grownBy w1 v.ownBlock) : Own w1 B v' (l ++ [x]) ∧ Below B w w1 := by
  refine ⟨by unfold Own; simpa using hown', (hnx.alloc hB o).grown hgrow (by simp; omega) (fun j hj => (hown.lt j hj).1)⟩
theorem below_len {B : Nat} {w w' : World} (h : Below B w w') (hB : B = w.heap.size) : B ≤ w'.heap.size := hB ▸ h.size

/-! ### the laws' helpers -/
def marks (k : Int) (n : Nat) : List Int := (List.range n).map fun (i : Nat) => k + (i : Int)
theorem marks_len (k : Int) (n : Nat) : (marks k n).length = n := by simp [marks]
theorem marks_get (k : Int) (n j : Nat) (h : j < n) : (marks k n).getD j 0 = k + j := by simp [marks, List.getD, h]

theorem eqL_any (v1 v2 : Value) (l : List Int) (w : World) (h1 : Rd w v1 l) (h2 : Rd w v2 l) (hlen : l.length ≤ 1048576) :
    Calls Try.prog 23 #[v1, v2] w fun e w' => e = .returned (.bool true) ∧ Below w.heap.size w w' := by
  have hn : ∀ n c n' c' : Nat, ∀ a1 a2 : Option Addr, n = l.length → n' = l.length → (n = 0 ∨ (∃ b b', a1 = some ⟨b, 0, none⟩ ∧ a2 = some ⟨b', 0, none⟩ ∧ (∀ j, j < l.length → w.cell? ⟨b, j, none⟩ = some (.int .i64 (l.getD j 0))) ∧ (∀ j, j < l.length → w.cell? ⟨b', j, none⟩ = some (.int .i64 (l.getD j 0))))) →
      Calls Try.prog 23 #[.slice a1 n c, .slice a2 n' c'] w fun e w' => e = .returned (.bool true) ∧ Below w.heap.size w w' := by
    intro n c n' c' a1 a2 e1 e2 hc
    subst e1
    subst e2
    rcases hc with h0 | ⟨b, b', rfl, rfl, hc1, hc2⟩
    · have HZ := Lib.hid h0
      obtain ⟨n, hn⟩ : ∃ n, n = l.length := ⟨_, rfl⟩
      rw [← hn] at h0 ⊢
      clear HZ hn
      subst h0
      go_enter Try.func23, Try.ntmps23
      go_wp2
      go_loop [5] (fun i => i = .int .i64 0) (fun _ => 0)
      case atStart => rfl
      case round =>
        obtain rfl := hrel
        go_wp2
        go_ret
        exact ⟨rfl, Below.refl _ _⟩
    · have H1 := Lib.hid hc1
      have H2 := Lib.hid hc2
      clear hc1 hc2 h1 h2
      go_enter Try.func23, Try.ntmps23
      go_wp2
      go_loopw [5] (fun i wr => ∃ k : Nat, k ≤ l.length ∧ i = .int .i64 k ∧ ∃ m, wr = w.drewN m) (fun i _ => l.length - (intOf i).toNat)
      case atStart => exact ⟨0, Nat.zero_le _, rfl, 0, rfl⟩
      case round =>
        obtain ⟨k, hk, rfl, m, rfl⟩ := hrel
        by_cases hlt : k < l.length
        · have c1 := H1.out k hlt
          have c2 := H2.out k hlt
          obtain ⟨x, hx⟩ : ∃ x, l.getD k 0 = x := ⟨_, rfl⟩
          rw [hx] at c1 c2
          clear hx
          have k0 : (0 : Int) ≤ (k : Int) := by omega
          have k1 : (k : Int) < (l.length : Int) := by omega
          go_wp2
          go_quiet (fail)
          go_wp2
          go_roundw
          case rel => exact ⟨k + 1, by omega, by go_num, _, rfl⟩
          case measure => simp [intOf]; omega
        · go_wp2
          go_ret
          exact ⟨rfl, below_drewN (Below.refl _ _) _⟩
  rcases h1 with ⟨rfl, hl⟩ | ⟨b, cap, rfl, _, hc1⟩
  · have hz : (0 : Nat) = l.length := by rw [hl]; rfl
    rcases h2 with ⟨rfl, _⟩ | ⟨b', cap', rfl, _, hc2⟩
    · exact hn 0 0 0 0 none none hz hz (.inl rfl)
    · exact hn 0 0 _ cap' none _ hz rfl (.inl rfl)
  · rcases h2 with ⟨rfl, hl⟩ | ⟨b', cap', rfl, _, hc2⟩
    · have hz : (0 : Nat) = l.length := by rw [hl]; rfl
      exact hn _ cap 0 0 _ none rfl hz (.inl hz.symm)
    · exact hn _ cap _ cap' _ _ rfl rfl (.inr ⟨b, b', rfl, rfl, hc1, hc2⟩)

/-- The list behind i rounds of marking. -/
def half (k : Int) (l : List Int) (i : Nat) : List Int := marks k i ++ l.drop i
theorem half_len (k : Int) (l : List Int) (i : Nat) (h : i ≤ l.length) : (half k l i).length = l.length := by simp [half, marks]; omega
theorem half_0 (k : Int) (l : List Int) : half k l 0 = l := by simp [half, marks]
theorem half_all (k : Int) (l : List Int) : half k l l.length = marks k l.length := by simp [half]
theorem half_set (k : Int) (l : List Int) (i : Nat) (h : i < l.length) : (half k l i).set i (k + i) = half k l (i + 1) := by
  unfold half
  rw [List.set_append_right _ _ (by simp [marks]), marks_len, Nat.sub_self]
  have e : marks k (i + 1) = marks k i ++ [k + (i : Int)] := by simp [marks, List.range_succ]
  rw [e, List.append_assoc]
  congr 1
  rw [List.drop_eq_getElem_cons h]; rfl
theorem mark_any (v : Value) (l : List Int) (k : Int) (B : Nat) (w : World) (h : Own w B v l) (hlen : l.length ≤ 1048576) (k0 : 0 ≤ k) (k1 : k ≤ 1048576) :
    Calls Try.prog 24 #[v, .int .i64 k] w fun e w' => e = .returned (.int .i64 (k + l.length)) ∧ Own w' B v (marks k l.length) ∧ w.grownBy w' v.ownBlock := by
  rcases h.form with ⟨rfl, hl⟩ | ⟨g, cap, rfl, _, hg⟩
  · have e : marks k l.length = [] := by rw [hl]; rfl
    have ek : k + (l.length : Int) = k := by rw [hl]; simp
    rw [e, ek]
    clear e ek hl h
    go_enter Try.func24, Try.ntmps24
    go_wp2
    go_loop [1, 5] (fun q i => q = .int .i64 k ∧ i = .int .i64 0) (fun _ _ => 0)
    case atStart => exact ⟨rfl, rfl⟩
    case round =>
      obtain ⟨rfl, rfl⟩ := hrel
      go_wp2
      go_ret
      exact ⟨rfl, Own.nil _ _, World.grownBy.refl _ _⟩
  · have H := Lib.hid h
    clear h
    go_enter Try.func24, Try.ntmps24
    go_wp2
    go_loopw [1, 5] (fun q i wr => ∃ n : Nat, n ≤ l.length ∧ i = .int .i64 n ∧ q = .int .i64 (k + n) ∧ Own wr B (.slice (some ⟨g, 0, none⟩) l.length cap) (half k l n) ∧ w.grownBy wr (some g)) (fun _ i _ => l.length - (intOf i).toNat)
    case atStart => exact ⟨0, Nat.zero_le _, rfl, by simp, by rw [half_0]; exact H.out, World.grownBy.refl _ _⟩
    case round =>
      obtain ⟨n, hn, rfl, rfl, hown, hgr⟩ := hrel
      have hln := half_len k l n hn
      have hown2 : wr.ownsRow B 3 1 (.slice (some ⟨g, 0, none⟩) (half k l n).length cap) (half k l n).length ((half k l n).map (Value.int .i64)) := by
        have := hown; unfold Own at this; rw [hln] at this ⊢; exact this
      by_cases hlt : n < l.length
      · have hc := World.ownsRow.cellAt hown2 n (by omega)
        rw [map_getD _ _ (by omega)] at hc
        have hf := World.ownsRow.frozenAt hown2 n
        have hst := World.ownsRow.stored hown2 n (.int .i64 (k + n))
        have R : Own (wr.setCell ⟨g, n, none⟩ (.int .i64 (k + n))) B (.slice (some ⟨g, 0, none⟩) l.length cap) (half k l (n + 1)) ∧ w.grownBy (wr.setCell ⟨g, n, none⟩ (.int .i64 (k + n))) (some g) := by
          constructor
          · have := hst.1
            rw [← List.map_set, half_set k l n hlt, hln] at this
            unfold Own
            rw [half_len k l (n + 1) (by omega)]
            exact this
          · exact hgr.trans hst.2
        obtain ⟨x, hx⟩ : ∃ x, (half k l n).getD n 0 = x := ⟨_, rfl⟩
        rw [hx] at hc
        have HR := Lib.hid R
        clear hst R hown hown2 hgr hx hln
        have k2 : (n : Int) < (l.length : Int) := by omega
        have k3 : (0 : Int) ≤ (n : Int) := by omega
        go_wp2
        go_roundw
        case rel => exact ⟨n + 1, by omega, by go_num, by congr 1; omega, HR.out.1, HR.out.2⟩
        case measure => simp [intOf]; omega
      · obtain rfl : n = l.length := by omega
        rw [half_all] at hown
        have HO := Lib.hid hown
        clear hown hown2 hln
        go_wp2
        go_ret
        exact ⟨rfl, by have := HO.out; exact this, hgr⟩
theorem held_any (v : Value) (n : Nat) (k : Int) (w : World) (h : Rd w v (marks k n)) (hlen : n ≤ 1048576) (k0 : 0 ≤ k) (k1 : k ≤ 1048576) :
    Calls Try.prog 25 #[v, .int .i64 k] w fun e w' => e = .returned (.int .i64 (k + n)) ∧ w = w' := by
  rcases h with ⟨rfl, hl⟩ | ⟨b, cap, rfl, _, hc⟩
  · have hn : n = 0 := by have := congrArg List.length hl; rw [marks_len] at this; simpa using this
    subst hn
    have ek : k + ((0 : Nat) : Int) = k := by simp
    rw [ek]
    clear ek hl
    go_enter Try.func25, Try.ntmps25
    go_wp2
    go_loop [1, 5] (fun q i => q = .int .i64 k ∧ i = .int .i64 0) (fun _ _ => 0)
    case atStart => exact ⟨rfl, rfl⟩
    case round =>
      obtain ⟨rfl, rfl⟩ := hrel
      go_wp2
      go_ret
      exact ⟨rfl, rfl⟩
  · rw [marks_len] at hc ⊢
    have HC := Lib.hid hc
    clear hc
    go_enter Try.func25, Try.ntmps25
    go_wp2
    go_loop [1, 5] (fun q i => ∃ j : Nat, j ≤ n ∧ i = .int .i64 j ∧ q = .int .i64 (k + j)) (fun _ i => n - (intOf i).toNat)
    case atStart => exact ⟨0, Nat.zero_le _, rfl, by simp⟩
    case round =>
      obtain ⟨j, hj, rfl, rfl⟩ := hrel
      by_cases hlt : j < n
      · have c1 := HC.out j hlt
        rw [marks_get k n j hlt] at c1
        have k2 : (j : Int) < (n : Int) := by omega
        have k3 : (0 : Int) ≤ (j : Int) := by omega
        go_wp2
        go_round
        case rel => exact ⟨j + 1, by omega, by go_num, by congr 1; omega⟩
        case measure => simp [intOf]; omega
      · obtain rfl : j = n := by omega
        go_wp2
        go_ret
        exact ⟨rfl, rfl⟩
end Go.Proofs.Ythhehbcnpmjicaa
