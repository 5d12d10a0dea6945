/-
  sameInts: two lists in memory that are one list are found the same. Conditions: both can be read, and are not longer than 2^20.
-/
import Derived.Test.YteoalkgpdgoaeaaLists
namespace Go.Proofs.Yteoalkgpdgoaeaa
open Go Go.RowKit Bw
set_option linter.unusedVariables false
/-- A call that makes a list, behind a world that lies above W. -/
theorem over_l {P : Program} {f : FuncId} {args : Array Value} {W w : World} {l : List Int} (hb : Below W.heap.size W w)
    (h : Calls P f args w fun e w' => LRet l w e w') : Calls P f args w fun e w' => ∃ v, e = .returned v ∧ Own w' w.heap.size v l ∧ Below w.heap.size w w' ∧ Below W.heap.size W w' :=
  h.mono fun _ _ ⟨v, he, ho, h⟩ => ⟨v, he, ho, h, hb.trans (h.mono hb.size)⟩
theorem sameL_any (v1 v2 : Value) (l : List Int) (w : World) (h1 : Rd w v1 l) (h2 : Rd w v2 l) (hlen : l.length ≤ 1048576) :
    Calls Try.prog 26 #[v1, v2] w fun e w' => e = .returned (.bool true) ∧ Below w.heap.size w w' := by
  have hn : ∀ n c n' c' : Nat, ∀ a1 a2 : Option Addr, n = l.length → n' = l.length → (n = 0 ∨ (∃ b b', a1 = some ⟨b, 0, none⟩ ∧ a2 = some ⟨b', 0, none⟩ ∧ (∀ j, j < l.length → w.cell? ⟨b, j, none⟩ = some (.int .i64 (l.getD j 0))) ∧ (∀ j, j < l.length → w.cell? ⟨b', j, none⟩ = some (.int .i64 (l.getD j 0))))) →
      Calls Try.prog 26 #[.slice a1 n c, .slice a2 n' c'] w fun e w' => e = .returned (.bool true) ∧ Below w.heap.size w w' := by
    intro n c n' c' a1 a2 e1 e2 hc
    subst e1
    subst e2
    rcases hc with h0 | ⟨b, b', rfl, rfl, hc1, hc2⟩
    · have HZ := Lib.hid h0
      obtain ⟨n, hn⟩ : ∃ n, n = l.length := ⟨_, rfl⟩
      rw [← hn] at h0 ⊢
      clear HZ hn
      subst h0
      go_enter Try.func26, Try.ntmps26
      go_wp2
      go_loop [5] (fun i => i = .int .i64 0) (fun _ => 0)
      case atStart => rfl
      case round =>
        obtain rfl := hrel
        go_wp2
        go_ret
        exact ⟨rfl, Below.refl _ _⟩
    · have H1 := Lib.hid hc1
      have H2 := Lib.hid hc2
      clear hc1 hc2 h1 h2
      go_enter Try.func26, Try.ntmps26
      go_wp2
      go_loopw [5] (fun i wr => ∃ k : Nat, k ≤ l.length ∧ i = .int .i64 k ∧ ∃ m, wr = w.drewN m) (fun i _ => l.length - (intOf i).toNat)
      case atStart => exact ⟨0, Nat.zero_le _, rfl, 0, rfl⟩
      case round =>
        obtain ⟨k, hk, rfl, m, rfl⟩ := hrel
        by_cases hlt : k < l.length
        · have c1 := H1.out k hlt
          have c2 := H2.out k hlt
          obtain ⟨x, hx⟩ : ∃ x, l.getD k 0 = x := ⟨_, rfl⟩
          rw [hx] at c1 c2
          clear hx
          have k0 : (0 : Int) ≤ (k : Int) := by omega
          have k1 : (k : Int) < (l.length : Int) := by omega
          go_wp2
          go_quiet (fail)
          go_wp2
          go_roundw
          case rel => exact ⟨k + 1, by omega, by go_num, _, rfl⟩
          case measure => simp [intOf]; omega
        · go_wp2
          go_ret
          exact ⟨rfl, below_drewN (Below.refl _ _) _⟩
  rcases h1 with ⟨rfl, hl⟩ | ⟨b, cap, rfl, _, hc1⟩
  · have hz : (0 : Nat) = l.length := by rw [hl]; rfl
    rcases h2 with ⟨rfl, _⟩ | ⟨b', cap', rfl, _, hc2⟩
    · exact hn 0 0 0 0 none none hz hz (.inl rfl)
    · exact hn 0 0 _ cap' none _ hz rfl (.inl rfl)
  · rcases h2 with ⟨rfl, hl⟩ | ⟨b', cap', rfl, _, hc2⟩
    · have hz : (0 : Nat) = l.length := by rw [hl]; rfl
      exact hn _ cap 0 0 _ none rfl hz (.inl hz.symm)
    · exact hn _ cap _ cap' _ _ rfl rfl (.inr ⟨b, b', rfl, rfl, hc1, hc2⟩)
theorem own_form {w : World} {B K : Nat} {v : Value} {l : List Int} (h : Own w B v l) (hl : l.length = K) (hK : 0 < K) :
    ∃ g cap, v = .slice (some ⟨g, 0, none⟩) K cap ∧ B ≤ g ∧ ∀ j, j < K → w.cell? ⟨g, j, none⟩ = some (.int .i64 (l.getD j 0)) := by
  subst hl
  rcases h.form with ⟨_, hn⟩ | ⟨g, cap, rfl, hg, _⟩
  · subst hn; simp at hK
  · exact ⟨g, cap, rfl, hg, fun j hj => by rw [World.ownsRow.cellAt h j (by simpa using hj), map_getD l j hj]⟩
end Go.Proofs.Yteoalkgpdgoaeaa
