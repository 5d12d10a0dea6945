/-
  THE LAWS' HELPERS OVER LISTS OF LISTS: comparing. Conditions: as the premises name them.
-/
import Derived.Test.YteoalkgpdgoaeaaSteps
namespace Go.Proofs.Yteoalkgpdgoaeaa
open Go Go.RowKit Bw
set_option linter.unusedVariables false
/-- The cells of a list of lists that stands in block g. -/
def RowCells (w : World) (B g K : Nat) (rows : List (List Int)) : Prop :=
  ∀ i, i < rows.length → ∃ b c, g < w.heap.size ∧ w.cell? ⟨g, i, none⟩ = some (.slice (some ⟨b, 0, none⟩) K c) ∧ Own w B (.slice (some ⟨b, 0, none⟩) K c) (rows.getD i [])
theorem OwnS.form {w : World} {B K : Nat} {v : Value} {rows : List (List Int)} (h : OwnS w B v K rows) :
    (rows.length = 0 ∧ ∃ a c, v = .slice a 0 c) ∨ ∃ g cap, v = .slice (some ⟨g, 0, none⟩) rows.length cap ∧ RowCells w B g K rows := by
  obtain ⟨vs, ho, hl, hr, _⟩ := h
  rcases ho.2 with ⟨rfl, h0⟩ | ⟨g, cap, cur, rfl, hg, hh, _⟩
  · exact .inl ⟨h0, _, _, rfl⟩
  · refine .inr ⟨g, cap, rfl, fun i hi => ?_⟩
    obtain ⟨b, c, h1, h2⟩ := hr i hi
    exact ⟨b, c, (Array.getElem?_eq_some_iff.1 hh).1, by rw [World.ownsRow.cellAt ho i (by omega), h1], h2⟩
theorem sameSS_any (v1 v2 : Value) (B1 B2 K : Nat) (rows : List (List Int)) (w : World) (h1 : OwnS w B1 v1 K rows) (h2 : OwnS w B2 v2 K rows) (hlen : rows.length ≤ 8) (hK : K ≤ 12)
    (hrows : ∀ i, i < rows.length → (rows.getD i []).length = K) :
    Calls Try.prog 22 #[v1, v2] w fun e w' => e = .returned (.bool true) ∧ Below w.heap.size w w' := by
  have hn : ∀ n c n' c' : Nat, ∀ a1 a2 : Option Addr, n = rows.length → n' = rows.length → (n = 0 ∨ ∃ g g', a1 = some ⟨g, 0, none⟩ ∧ a2 = some ⟨g', 0, none⟩ ∧ RowCells w B1 g K rows ∧ RowCells w B2 g' K rows) →
      Calls Try.prog 22 #[.slice a1 n c, .slice a2 n' c'] w fun e w' => e = .returned (.bool true) ∧ Below w.heap.size w w' := by
    intro n c n' c' a1 a2 e1 e2 hc
    subst e1
    subst e2
    rcases hc with h0 | ⟨g, g', rfl, rfl, hc1, hc2⟩
    · obtain ⟨n, hn⟩ : ∃ n, n = rows.length := ⟨_, rfl⟩
      rw [← hn] at h0 ⊢
      clear hn
      subst h0
      clear h1 h2 hrows
      go_enter Try.func22, Try.ntmps22
      go_wp2
      go_loop [5] (fun i => i = .int .i64 0) (fun _ => 0)
      case atStart => rfl
      case round =>
        obtain rfl := hrel
        go_wp2
        go_ret
        exact ⟨rfl, Below.refl _ _⟩
    · have H1 := Lib.hid hc1
      have H2 := Lib.hid hc2
      have HR := Lib.hid hrows
      clear hc1 hc2 h1 h2 hrows
      go_enter Try.func22, Try.ntmps22
      go_wp2
      go_loopw [5] (fun i wr => ∃ k : Nat, k ≤ rows.length ∧ i = .int .i64 k ∧ Below w.heap.size w wr) (fun i _ => rows.length - (intOf i).toNat)
      case atStart => exact ⟨0, Nat.zero_le _, rfl, Below.refl _ _⟩
      case round =>
        obtain ⟨k, hk, rfl, hb⟩ := hrel
        by_cases hlt : k < rows.length
        · obtain ⟨b1, c1, hg1, hc1, ho1⟩ := H1.out k hlt
          obtain ⟨b2, c2, hg2, hc2, ho2⟩ := H2.out k hlt
          have d1 : wr.drew.cell? ⟨g, k, none⟩ = some (.slice (some ⟨b1, 0, none⟩) K c1) := (hb.cell (p := ⟨g, k, none⟩) hg1).trans hc1
          have d2 : wr.drew.cell? ⟨g', k, none⟩ = some (.slice (some ⟨b2, 0, none⟩) K c2) := (hb.cell (p := ⟨g', k, none⟩) hg2).trans hc2
          have hbd : Below w.heap.size w wr.drew := below_drewN hb 1
          have R1 := ho1.rd.below hbd
          have R2 := ho2.rd.below hbd
          have hl := HR.out k hlt
          obtain ⟨r, hr⟩ : ∃ r, rows.getD k [] = r := ⟨_, rfl⟩
          rw [hr] at R1 R2 hl
          have HL : r.length ≤ 1048576 := by omega
          have HLX := Lib.hid HL
          have k0 : (0 : Int) ≤ (k : Int) := by omega
          have k1 : (k : Int) < (rows.length : Int) := by omega
          clear hr hc1 hc2 ho1 ho2 hl HL
          go_wp2_with fail
          go_region_law (go_simp; go_at_call 26; refine (over hbd (sameL_any _ _ r _ R1 R2 HLX.out)).mono ?_; rintro e w5 ⟨rfl, hb5⟩)
          all_goals
            go_wp2
            go_roundw
            case rel => exact ⟨k + 1, by omega, by go_num, hb5⟩
            case measure => simp [intOf]; omega
        · go_wp2
          go_ret
          exact ⟨rfl, hb⟩
  rcases h1.form with ⟨n0, a, c, rfl⟩ | ⟨g, cap, rfl, hc⟩
  · rcases h2.form with ⟨_, a', c', rfl⟩ | ⟨g', cap', rfl, _⟩
    · exact hn 0 c 0 c' a a' n0.symm n0.symm (.inl rfl)
    · exact hn 0 c _ cap' a _ n0.symm rfl (.inl rfl)
  · rcases h2.form with ⟨n0, a', c', rfl⟩ | ⟨g', cap', rfl, hc'⟩
    · exact hn _ cap 0 c' _ a' rfl n0.symm (.inl n0)
    · exact hn _ cap _ cap' _ _ rfl rfl (.inr ⟨g, g', rfl, rfl, hc, hc'⟩)
/-- One row is written anew in its own block. -/
theorem OwnS.set {w w' : World} {B K i b c : Nat} {v : Value} {rows : List (List Int)} {vs : List Value} {r : List Int} (ho : w.ownsRow B 23 1 v rows.length vs) (hR : RowsAt w B K vs rows)
    (hi : i < rows.length) (hv : vs[i]? = some (Value.slice (some ⟨b, 0, none⟩) K c)) (hr : Own w' B (.slice (some ⟨b, 0, none⟩) K c) r) (hg : w.grownBy w' (some b)) :
    w'.ownsRow B 23 1 v (rows.set i r).length vs ∧ RowsAt w' B K vs (rows.set i r) := by
  obtain ⟨hl, hrs, hlt⟩ := hR
  obtain ⟨b0, c0, e0, h0⟩ := hrs i hi
  rw [hv] at e0
  have hbb : Own w B (.slice (some ⟨b, 0, none⟩) K c) (rows.getD i []) := by
    have e := Option.some.inj e0
    rw [e]; exact h0
  refine ⟨?_, by simp [hl], fun j hj => ?_, hlt⟩
  · rw [List.length_set]
    refine keep_row ho fun g hgv hgl => hg.block g hgl fun e => ?_
    obtain rfl : g = b := by simpa using e
    obtain ⟨_, _, cur, q1⟩ := row_block ho g hgv
    obtain ⟨_, _, cur2, q2⟩ := row_block hbb g rfl
    rw [q1] at q2
    injection q2 with q2
    injection q2 with _ q3
    exact absurd q3 (by decide)
  · rw [List.length_set] at hj
    by_cases hij : j = i
    · subst hij
      refine ⟨b, c, hv, ?_⟩
      have e : (rows.set j r).getD j [] = r := by simp [List.getD, hj]
      rw [e]; exact hr
    · obtain ⟨b1, c1, h1, h2⟩ := hrs j hj
      have e : (rows.set i r).getD j [] = rows.getD j [] := by simp only [List.getD]; rw [List.getElem?_set_ne (fun h => hij h.symm)]
      rw [e]
      refine ⟨b1, c1, h1, keep_row (w := w) h2 fun g hgv hgl => hg.block g hgl fun e => ?_⟩
      obtain rfl : g = b := by simpa using e
      obtain rfl : b1 = g := by simpa [Value.ownBlock] using hgv
      rcases Nat.lt_or_ge i j with hlt2 | hge
      · have := hlt i j _ _ _ _ hlt2 hv h1; omega
      · have := hlt j i _ _ _ _ (by omega) h1 hv; omega
/-- The rows behind i rounds of marking. -/
def markS (k : Int) (K : Nat) (rows : List (List Int)) (i : Nat) : List (List Int) := (List.range rows.length).map fun j => if j < i then marks (k + (j : Int) * K) K else rows.getD j []
theorem markS_len (k : Int) (K : Nat) (rows : List (List Int)) (i : Nat) : (markS k K rows i).length = rows.length := by simp [markS]
theorem markS_get (k : Int) (K : Nat) (rows : List (List Int)) (i j : Nat) (h : j < rows.length) : (markS k K rows i).getD j [] = if j < i then marks (k + (j : Int) * K) K else rows.getD j [] := by
  simp [markS, List.getD, h]
theorem markS_0 (k : Int) (K : Nat) (rows : List (List Int)) : markS k K rows 0 = rows := by
  apply List.ext_getElem
  · exact markS_len _ _ _ _
  · intro j h1 h2
    have := markS_get k K rows 0 j h2
    simpa [List.getD, h2, markS_len] using this
theorem markS_set (k : Int) (K : Nat) (rows : List (List Int)) (i : Nat) (h : i < rows.length) : (markS k K rows i).set i (marks (k + (i : Int) * K) K) = markS k K rows (i + 1) := by
  apply List.ext_getElem
  · simp [markS_len]
  · intro j h1 h2
    rw [List.getElem_set]
    have hj : j < rows.length := by rw [markS_len] at h2; exact h2
    have e1 := markS_get k K rows i j hj
    have e2 := markS_get k K rows (i + 1) j hj
    have hj1 : j < (markS k K rows i).length := by rw [markS_len]; exact hj
    simp only [List.getD, List.getElem?_eq_getElem hj1, List.getElem?_eq_getElem h2, Option.getD_some] at e1 e2
    rw [e2]
    split
    · rename_i hij; subst hij; rw [if_pos (by omega)]
    · rename_i hij
      rw [e1]
      by_cases hlt : j < i
      · rw [if_pos hlt, if_pos (by omega)]
      · rw [if_neg hlt, if_neg (by omega)]
end Go.Proofs.Yteoalkgpdgoaeaa
