/-
  THE LAWS' HELPERS OVER LISTS OF LISTS: comparing. Conditions: as the premises name them.
-/
import Derived.Test.YthhehbcnpmjicaaSteps
namespace Go.Proofs.Ythhehbcnpmjicaa
open Go Go.RowKit Bw
set_option linter.unusedVariables false
/-- The cells of a list of lists that stands in block g. -/
def RowCells (w : World) (B g K : Nat) (rows : List (List Int)) : Prop :=
  ∀ i, i < rows.length → ∃ b c, g < w.heap.size ∧ w.cell? ⟨g, i, none⟩ = some (.slice (some ⟨b, 0, none⟩) K c) ∧ Own w B (.slice (some ⟨b, 0, none⟩) K c) (rows.getD i [])
theorem OwnS.form {w : World} {B K : Nat} {v : Value} {rows : List (List Int)} (h : OwnS w B v K rows) :
    (rows.length = 0 ∧ ∃ a c, v = .slice a 0 c) ∨ ∃ g cap, v = .slice (some ⟨g, 0, none⟩) rows.length cap ∧ RowCells w B g K rows := by
  obtain ⟨vs, ho, hl, hr, _⟩ := h
  rcases ho.2 with ⟨rfl, h0⟩ | ⟨g, cap, cur, rfl, hg, hh, _⟩
  · exact .inl ⟨h0, _, _, rfl⟩
  · refine .inr ⟨g, cap, rfl, fun i hi => ?_⟩
    obtain ⟨b, c, h1, h2⟩ := hr i hi
    exact ⟨b, c, (Array.getElem?_eq_some_iff.1 hh).1, by rw [World.ownsRow.cellAt ho i (by omega), h1], h2⟩
theorem eqSS_any (v1 v2 : Value) (B1 B2 K : Nat) (rows : List (List Int)) (w : World) (h1 : OwnS w B1 v1 K rows) (h2 : OwnS w B2 v2 K rows) (hlen : rows.length ≤ 8) (hK : K ≤ 12)
    (hrows : ∀ i, i < rows.length → (rows.getD i []).length = K) :
    Calls Try.prog 41 #[v1, v2] w fun e w' => e = .returned (.bool true) ∧ Below w.heap.size w w' := by
  have hn : ∀ n c n' c' : Nat, ∀ a1 a2 : Option Addr, n = rows.length → n' = rows.length → (n = 0 ∨ ∃ g g', a1 = some ⟨g, 0, none⟩ ∧ a2 = some ⟨g', 0, none⟩ ∧ RowCells w B1 g K rows ∧ RowCells w B2 g' K rows) →
      Calls Try.prog 41 #[.slice a1 n c, .slice a2 n' c'] w fun e w' => e = .returned (.bool true) ∧ Below w.heap.size w w' := by
    intro n c n' c' a1 a2 e1 e2 hc
    subst e1
    subst e2
    rcases hc with h0 | ⟨g, g', rfl, rfl, hc1, hc2⟩
    · obtain ⟨n, hn⟩ : ∃ n, n = rows.length := ⟨_, rfl⟩
      rw [← hn] at h0 ⊢
      clear hn
      subst h0
      clear h1 h2 hrows
      go_enter Try.func41, Try.ntmps41
      go_wp2
      go_loop [5] (fun i => i = .int .i64 0) (fun _ => 0)
      case atStart => rfl
      case round =>
        obtain rfl := hrel
        go_wp2
        go_ret
        exact ⟨rfl, Below.refl _ _⟩
    · have H1 := Lib.hid hc1
      have H2 := Lib.hid hc2
      have HR := Lib.hid hrows
      clear hc1 hc2 h1 h2 hrows
      go_enter Try.func41, Try.ntmps41
      go_wp2
      go_loopw [5] (fun i wr => ∃ k : Nat, k ≤ rows.length ∧ i = .int .i64 k ∧ Below w.heap.size w wr) (fun i _ => rows.length - (intOf i).toNat)
      case atStart => exact ⟨0, Nat.zero_le _, rfl, Below.refl _ _⟩
      case round =>
        obtain ⟨k, hk, rfl, hb⟩ := hrel
        by_cases hlt : k < rows.length
        · obtain ⟨b1, c1, hg1, hc1, ho1⟩ := H1.out k hlt
          obtain ⟨b2, c2, hg2, hc2, ho2⟩ := H2.out k hlt
          have d1 : wr.drew.cell? ⟨g, k, none⟩ = some (.slice (some ⟨b1, 0, none⟩) K c1) := (hb.cell (p := ⟨g, k, none⟩) hg1).trans hc1
          have d2 : wr.drew.cell? ⟨g', k, none⟩ = some (.slice (some ⟨b2, 0, none⟩) K c2) := (hb.cell (p := ⟨g', k, none⟩) hg2).trans hc2
          have hbd : Below w.heap.size w wr.drew := below_drewN hb 1
          have R1 := ho1.rd.below hbd
          have R2 := ho2.rd.below hbd
          have hl := HR.out k hlt
          obtain ⟨r, hr⟩ : ∃ r, rows.getD k [] = r := ⟨_, rfl⟩
          rw [hr] at R1 R2 hl
          have HL : r.length ≤ 1048576 := by omega
          have HLX := Lib.hid HL
          have k0 : (0 : Int) ≤ (k : Int) := by omega
          have k1 : (k : Int) < (rows.length : Int) := by omega
          clear hr hc1 hc2 ho1 ho2 hl HL
          go_wp2_with fail
          go_region_law (go_simp; go_at_call 23; refine (over hbd (eqL_any _ _ r _ R1 R2 HLX.out)).mono ?_; rintro e w5 ⟨rfl, hb5⟩)
          all_goals
            go_wp2
            go_roundw
            case rel => exact ⟨k + 1, by omega, by go_num, hb5⟩
            case measure => simp [intOf]; omega
        · go_wp2
          go_ret
          exact ⟨rfl, hb⟩
  rcases h1.form with ⟨n0, a, c, rfl⟩ | ⟨g, cap, rfl, hc⟩
  · rcases h2.form with ⟨_, a', c', rfl⟩ | ⟨g', cap', rfl, _⟩
    · exact hn 0 c 0 c' a a' n0.symm n0.symm (.inl rfl)
    · exact hn 0 c _ cap' a _ n0.symm rfl (.inl rfl)
  · rcases h2.form with ⟨n0, a', c', rfl⟩ | ⟨g', cap', rfl, hc'⟩
    · exact hn _ cap 0 c' _ a' rfl n0.symm (.inl n0)
    · exact hn _ cap _ cap' _ _ rfl rfl (.inr ⟨g, g', rfl, rfl, hc, hc'⟩)
/-- One row is written anew in its own block. -/
theorem OwnS.set {w w' : World} {B K i b c : Nat} {v : Value} {rows : List (List Int)} {vs : List Value} {r : List Int} (ho : w.ownsRow B 28 1 v rows.length vs) (hR : RowsAt w B K vs rows)
    (hi : i < rows.length) (hv : vs[i]? = some (Value.slice (some ⟨b, 0, none⟩) K c)) (hr : Own w' B (.slice (some ⟨b, 0, none⟩) K c) r) (hg : w.grownBy w' (some b)) :
    w'.ownsRow B 28 1 v (rows.set i r).length vs ∧ RowsAt w' B K vs (rows.set i r) := by
  obtain ⟨hl, hrs, hlt⟩ := hR
  obtain ⟨b0, c0, e0, h0⟩ := hrs i hi
  rw [hv] at e0
  have hbb : Own w B (.slice (some ⟨b, 0, none⟩) K c) (rows.getD i []) := by
    have e := Option.some.inj e0
    rw [e]; exact h0
  refine ⟨?_, by simp [hl], fun j hj => ?_, hlt⟩
  · rw [List.length_set]
    refine keep_row ho fun g hgv hgl => hg.block g hgl fun e => ?_
    obtain rfl : g = b := by simpa using e
    obtain ⟨_, _, cur, q1⟩ := row_block ho g hgv
    obtain ⟨_, _, cur2, q2⟩ := row_block hbb g rfl
    rw [q1] at q2
    injection q2 with q2
    injection q2 with _ q3
    exact absurd q3 (by decide)
  · rw [List.length_set] at hj
    by_cases hij : j = i
    · subst hij
      refine ⟨b, c, hv, ?_⟩
      have e : (rows.set j r).getD j [] = r := by simp [List.getD, hj]
      rw [e]; exact hr
    · obtain ⟨b1, c1, h1, h2⟩ := hrs j hj
      have e : (rows.set i r).getD j [] = rows.getD j [] := by simp only [List.getD]; rw [List.getElem?_set_ne (fun h => hij h.symm)]
      rw [e]
      refine ⟨b1, c1, h1, keep_row (w := w) h2 fun g hgv hgl => hg.block g hgl fun e => ?_⟩
      obtain rfl : g = b := by simpa using e
      obtain rfl : b1 = g := by simpa [Value.ownBlock] using hgv
      rcases Nat.lt_or_ge i j with hlt2 | hge
      · have := hlt i j _ _ _ _ hlt2 hv h1; omega
      · have := hlt j i _ _ _ _ (by omega) h1 hv; omega
/-- The rows behind i rounds of marking. -/
def markS (k : Int) (K : Nat) (rows : List (List Int)) (i : Nat) : List (List Int) := (List.range rows.length).map fun j => if j < i then marks (k + (j : Int) * K) K else rows.getD j []
theorem markS_len (k : Int) (K : Nat) (rows : List (List Int)) (i : Nat) : (markS k K rows i).length = rows.length := by simp [markS]
theorem markS_get (k : Int) (K : Nat) (rows : List (List Int)) (i j : Nat) (h : j < rows.length) : (markS k K rows i).getD j [] = if j < i then marks (k + (j : Int) * K) K else rows.getD j [] := by
  simp [markS, List.getD, h]
theorem markS_0 (k : Int) (K : Nat) (rows : List (List Int)) : markS k K rows 0 = rows := by
  apply List.ext_getElem
  · exact markS_len _ _ _ _
  · intro j h1 h2
    have := markS_get k K rows 0 j h2
    simpa [List.getD, h2, markS_len] using this
theorem markS_set (k : Int) (K : Nat) (rows : List (List Int)) (i : Nat) (h : i < rows.length) : (markS k K rows i).set i (marks (k + (i : Int) * K) K) = markS k K rows (i + 1) := by
  apply List.ext_getElem
  · simp [markS_len]
  · intro j h1 h2
    rw [List.getElem_set]
    have hj : j < rows.length := by rw [markS_len] at h2; exact h2
    have e1 := markS_get k K rows i j hj
    have e2 := markS_get k K rows (i + 1) j hj
    have hj1 : j < (markS k K rows i).length := by rw [markS_len]; exact hj
    simp only [List.getD, List.getElem?_eq_getElem hj1, List.getElem?_eq_getElem h2, Option.getD_some] at e1 e2
    rw [e2]
    split
    · rename_i hij; subst hij; rw [if_pos (by omega)]
    · rename_i hij
      rw [e1]
      by_cases hlt : j < i
      · rw [if_pos hlt, if_pos (by omega)]
      · rw [if_neg hlt, if_neg (by omega)]
theorem marksS_any (v : Value) (K : Nat) (rows : List (List Int)) (k : Int) (B : Nat) (w : World) (h : OwnS w B v K rows) (hB : B ≤ w.heap.size) (hlen : rows.length ≤ 8) (hK : K ≤ 12)
    (hrows : ∀ i, i < rows.length → (rows.getD i []).length = K) (k0 : 0 ≤ k) (k1 : k ≤ 1000) :
    Calls Try.prog 42 #[v, .int .i64 k] w fun e w' => e = .returned (.int .i64 (k + rows.length * K)) ∧ OwnS w' B v K (markS k K rows rows.length) ∧ Below B w w' := by
  rcases h.form with ⟨n0, a, c, rfl⟩ | ⟨g, cap, rfl, hc⟩
  · have hS : OwnS w B (.slice a 0 c) K (markS k K rows rows.length) := by rw [n0, markS_0]; exact h
    have HS := Lib.hid hS
    have ek : k + (rows.length : Int) * K = k := by rw [n0]; simp
    rw [ek]
    clear hS ek h hrows
    go_enter Try.func42, Try.ntmps42
    go_wp2
    go_loop [1, 5] (fun q i => q = .int .i64 k ∧ i = .int .i64 0) (fun _ _ => 0)
    case atStart => exact ⟨rfl, rfl⟩
    case round =>
      obtain ⟨rfl, rfl⟩ := hrel
      go_wp2
      go_ret
      exact ⟨rfl, by have := HS.out; rw [n0] at this; exact this, Below.refl _ _⟩
  · obtain ⟨vs, ho, hR⟩ := h
    have HR := Lib.hid hrows
    have H0 := Lib.hid (And.intro ho hR)
    clear ho hR hrows hc
    go_enter Try.func42, Try.ntmps42
    go_wp2
    go_loopw [1, 5] (fun q i wr => ∃ n : Nat, n ≤ rows.length ∧ i = .int .i64 n ∧ q = .int .i64 (k + (n : Int) * K) ∧ (wr.ownsRow B 28 1 (.slice (some ⟨g, 0, none⟩) rows.length cap) rows.length vs ∧ RowsAt wr B K vs (markS k K rows n)) ∧ Below B w wr) (fun _ i _ => rows.length - (intOf i).toNat)
    case atStart => exact ⟨0, Nat.zero_le _, rfl, by simp, by rw [markS_0]; exact H0.out, Below.refl _ _⟩
    case round =>
      obtain ⟨n, hn, rfl, rfl, ⟨ho, hR⟩, hb⟩ := hrel
      by_cases hlt : n < rows.length
      · have hsl := markS_len k K rows n
        obtain ⟨b, c, hv, hrow⟩ := hR.2.1 n (by omega)
        have hget := markS_get k K rows n n hlt
        rw [if_neg (by omega)] at hget
        rw [hget] at hrow
        have hl := HR.out n hlt
        obtain ⟨r, hr⟩ : ∃ r, rows.getD n [] = r := ⟨_, rfl⟩
        rw [hr] at hrow hl
        have hcell : wr.cell? ⟨g, n, none⟩ = some (.slice (some ⟨b, 0, none⟩) K c) := by
          have := World.ownsRow.cellAt ho n (by omega)
          exact this.trans hv
        have hrowd : Own wr B (.slice (some ⟨b, 0, none⟩) K c) r := hrow
        have hq : 0 ≤ (n : Int) * K ∧ (n : Int) * K ≤ 96 := by
          have h1 : (n : Int) * K ≤ 8 * K := Int.mul_le_mul_of_nonneg_right (by omega) (by omega)
          exact ⟨Int.mul_nonneg (by omega) (by omega), by omega⟩
        have HP := Lib.hid (fun (w5 : World) (h1 : Own w5 B (.slice (some ⟨b, 0, none⟩) K c) (marks (k + (n : Int) * K) K)) (h2 : wr.grownBy w5 (some b)) => by
          have R := OwnS.set (w := wr) (w' := w5) (rows := markS k K rows n) (by rw [hsl]; exact ho) hR (by omega) hv h1 h2
          rw [markS_set k K rows n hlt, markS_len] at R
          have hbl := (row_block hrowd b rfl)
          exact And.intro R (hb.grown h2 (Nat.le_trans hB hb.size) (fun j hj => by cases hj; exact hbl.1)) : ∀ w5 : World, Own w5 B (.slice (some ⟨b, 0, none⟩) K c) (marks (k + (n : Int) * K) K) → wr.grownBy w5 (some b) → (w5.ownsRow B 28 1 (.slice (some ⟨g, 0, none⟩) rows.length cap) rows.length vs ∧ RowsAt w5 B K vs (markS k K rows (n + 1))) ∧ Below B w w5)
        have n0 : (0 : Int) ≤ (n : Int) := by omega
        have n1 : (n : Int) < (rows.length : Int) := by omega
        have hnext : k + ((n + 1 : Nat) : Int) * K = k + (n : Int) * K + K := by rw [show ((n + 1 : Nat) : Int) = (n : Int) + 1 by omega, Int.add_mul]; omega
        have HNX := Lib.hid hnext
        obtain ⟨q, hqq⟩ : ∃ q, k + (n : Int) * K = q := ⟨_, rfl⟩
        rw [hqq] at HP HNX
        have q0 : 0 ≤ q ∧ q ≤ 1048576 := by omega
        have HL := Lib.hid hl
        rw [hqq]
        clear hR ho hv hrow hget hr hsl hq hb hnext hqq hl
        go_wp2_with fail
        refine (mark_any _ r q B _ hrowd (by rw [HL.out]; omega) (by omega) (by omega)).mono ?_
        rintro e w5 ⟨rfl, h5, hg5⟩
        rw [HL.out] at h5
        have P := HP.out _ h5 hg5
        have HPP := Lib.hid P
        clear P h5 hg5
        go_wp2
        go_roundw
        case rel => exact ⟨n + 1, by omega, by go_num, by rw [HNX.out, HL.out], HPP.out.1, HPP.out.2⟩
        case measure => simp [intOf]; omega
      · obtain rfl : n = rows.length := by omega
        have HS : OwnS wr B (.slice (some ⟨g, 0, none⟩) rows.length cap) K (markS k K rows rows.length) := ⟨vs, by rw [markS_len]; exact ho, hR⟩
        have HSS := Lib.hid HS
        clear HS ho hR
        go_wp2
        go_ret
        exact ⟨rfl, HSS.out, hb⟩
theorem heldS_any (v : Value) (K : Nat) (rows : List (List Int)) (k : Int) (B : Nat) (w : World) (h : OwnS w B v K (markS k K rows rows.length)) (hlen : rows.length ≤ 8) (hK : K ≤ 12) (k0 : 0 ≤ k) (k1 : k ≤ 1000) :
    Calls Try.prog 43 #[v, .int .i64 k] w fun e w' => e = .returned (.int .i64 (k + rows.length * K)) ∧ w = w' := by
  have hsl := markS_len k K rows rows.length
  rcases h.form with ⟨n0, a, c, rfl⟩ | ⟨g, cap, rfl, hc⟩
  · rw [hsl] at n0
    have ek : k + (rows.length : Int) * K = k := by rw [n0]; simp
    rw [ek]
    clear ek h hsl
    go_enter Try.func43, Try.ntmps43
    go_wp2
    go_loop [1, 5] (fun q i => q = .int .i64 k ∧ i = .int .i64 0) (fun _ _ => 0)
    case atStart => exact ⟨rfl, rfl⟩
    case round =>
      obtain ⟨rfl, rfl⟩ := hrel
      go_wp2
      go_ret
      exact ⟨rfl, rfl⟩
  · rw [hsl]
    have HC := Lib.hid hc
    have HSL := Lib.hid hsl
    clear hc h hsl
    go_enter Try.func43, Try.ntmps43
    go_wp2
    go_loop [1, 5] (fun q i => ∃ n : Nat, n ≤ rows.length ∧ i = .int .i64 n ∧ q = .int .i64 (k + (n : Int) * K)) (fun _ i => rows.length - (intOf i).toNat)
    case atStart => exact ⟨0, Nat.zero_le _, rfl, by simp⟩
    case round =>
      obtain ⟨n, hn, rfl, rfl⟩ := hrel
      by_cases hlt : n < rows.length
      · obtain ⟨b, c, hg, hcell, hrow⟩ := HC.out n (by rw [HSL.out]; exact hlt)
        rw [markS_get k K rows rows.length n hlt, if_pos hlt] at hrow
        have hq : 0 ≤ (n : Int) * K ∧ (n : Int) * K ≤ 96 := by
          have h1 : (n : Int) * K ≤ 8 * K := Int.mul_le_mul_of_nonneg_right (by omega) (by omega)
          exact ⟨Int.mul_nonneg (by omega) (by omega), by omega⟩
        have n0 : (0 : Int) ≤ (n : Int) := by omega
        have n1 : (n : Int) < (rows.length : Int) := by omega
        have hnext : k + ((n + 1 : Nat) : Int) * K = k + (n : Int) * K + K := by rw [show ((n + 1 : Nat) : Int) = (n : Int) + 1 by omega, Int.add_mul]; omega
        have HNX := Lib.hid hnext
        obtain ⟨q, hqq⟩ : ∃ q, k + (n : Int) * K = q := ⟨_, rfl⟩
        rw [hqq] at hrow HNX
        have q0 : 0 ≤ q ∧ q ≤ 1048576 := by omega
        have R := hrow.rd
        have q2 : 0 ≤ q + (K : Int) := by omega
        rw [hqq]
        clear hrow hq hnext hqq
        go_wp2_with fail
        refine (held_any _ K q _ R (by omega) (by omega) (by omega)).mono ?_
        rintro e w5 ⟨rfl, rfl⟩
        go_wp2
        go_round
        case rel => exact ⟨n + 1, by omega, by go_num, by rw [HNX.out]⟩
        case measure => simp [intOf]; omega
      · obtain rfl : n = rows.length := by omega
        go_wp2
        go_ret
        exact ⟨rfl, rfl⟩
end Go.Proofs.Ythhehbcnpmjicaa
