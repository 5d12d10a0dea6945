/-
  THE WALKS OF THE WORDS' FUNCTIONS, the program's and the reference's: each answers one plain function of its arguments; no condition.
-/
import Derived.Test.YteoalkgpdgoaeaaLeaf
import Derived.Test.YteoalkgpdgoaeaaWordLaws
namespace Go.Proofs.Yteoalkgpdgoaeaa
open Go Go.RowKit Bw
set_option linter.unusedVariables false
theorem v2_bd {k a b : Int} (h : v2 k a b = true) : 1 ≤ k ∧ k ≤ 12 ∧ 0 ≤ a ∧ a < pw k ∧ 0 ≤ b ∧ b < pw k ∧ pw k ≤ 4096 := by
  obtain ⟨ha, hb⟩ := v2_iff.mp h
  obtain ⟨h1, h2, h3, h4⟩ := vX_iff.mp ha
  obtain ⟨_, _, h5, h6⟩ := vX_iff.mp hb
  exact ⟨h1, h2, h3, h4, h5, h6, pw_le12 h2⟩
theorem vX_bd {k a : Int} (h : vX k a = true) : 1 ≤ k ∧ k ≤ 12 ∧ 0 ≤ a ∧ a < pw k ∧ pw k ≤ 4096 := by
  obtain ⟨h1, h2, h3, h4⟩ := vX_iff.mp h
  exact ⟨h1, h2, h3, h4, pw_le12 h2⟩
theorem mul_bd {a b : Int} (h0 : 0 ≤ a) (h1 : a < 4096) (h2 : 0 ≤ b) (h3 : b < 4096) : 0 ≤ a * b ∧ a * b ≤ 16777216 := by
  have h7 : a * b ≤ 4096 * b := Int.mul_le_mul_of_nonneg_right (by omega) h2
  exact ⟨Int.mul_nonneg h0 h2, by omega⟩

theorem waddI_any (k a b : Int) (w : World) :
    Calls Try.prog 19 #[.int .i64 k, .int .i64 a, .int .i64 b] w fun e w' => e = .returned (.int .i64 (wadd k a b)) ∧ Below w.heap.size w w' := by
  by_cases h : v2 k a b = true
  · obtain ⟨h1, h2, h3, h4, h5, h6, h12⟩ := v2_bd h
    have E := Lib.hid (wadd_eq h)
    go_enter Try.func19, Try.ntmps19
    go_wp2_with (first | (go_at_call 60; refine (allValid2_any _ _ _ _ _ (by first | rfl | simp)).mono ?_; rintro e w' ⟨rfl, rfl⟩) | (go_at_call 76; refine (cut_any _ _ _ (by omega) (by omega)).mono ?_; rintro e w' ⟨rfl, rfl⟩) | (go_at_call 64; go_in) | (go_at_call 65; go_in))
    go_ret
    exact ⟨ret_int E.out.symm, (Below.refl _ _).alloc (Nat.le_refl _) _⟩
  · have h : v2 k a b = false := by simpa using h
    have E := Lib.hid (show wadd k a b = -1 by unfold wadd; rw [h]; rfl)
    go_enter Try.func19, Try.ntmps19
    go_wp2_with (first | (go_at_call 60; refine (allValid2_any _ _ _ _ _ (by first | rfl | simp)).mono ?_; rintro e w' ⟨rfl, rfl⟩) | (go_at_call 64; go_in))
    go_ret
    exact ⟨ret_int E.out.symm, (Below.refl _ _).alloc (Nat.le_refl _) _⟩
theorem waddS_any (k a b : Int) (w : World) :
    Calls Try.prog 55 #[.int .i64 k, .int .i64 a, .int .i64 b] w fun e w' => e = .returned (.int .i64 (wadd k a b)) ∧ w = w' := by
  by_cases h : v2 k a b = true
  · obtain ⟨h1, h2, h3, h4, h5, h6, h12⟩ := v2_bd h
    have E := Lib.hid (wadd_eq h)
    go_enter Try.func55, Try.ntmps55
    go_wp2_with (first | (go_at_call 84; refine (both_any _ _ _ _).mono ?_; rintro e w' ⟨rfl, rfl⟩) | (go_at_call 77; refine (l1Mod_any _ _ _ (by omega) (by omega)).mono ?_; rintro e w' ⟨rfl, rfl⟩))
    go_ret
    exact ⟨ret_int E.out.symm, rfl⟩
  · have h : v2 k a b = false := by simpa using h
    have E := Lib.hid (show wadd k a b = -1 by unfold wadd; rw [h]; rfl)
    go_enter Try.func55, Try.ntmps55
    go_wp2_with ((go_at_call 84; refine (both_any _ _ _ _).mono ?_; rintro e w' ⟨rfl, rfl⟩))
    go_ret
    exact ⟨ret_int E.out.symm, rfl⟩

theorem wsubI_any (k a b : Int) (w : World) :
    Calls Try.prog 41 #[.int .i64 k, .int .i64 a, .int .i64 b] w fun e w' => e = .returned (.int .i64 (wsub k a b)) ∧ Below w.heap.size w w' := by
  by_cases h : v2 k a b = true
  · obtain ⟨h1, h2, h3, h4, h5, h6, h12⟩ := v2_bd h
    have E := Lib.hid (wsub_eq h)
    go_enter Try.func41, Try.ntmps41
    go_wp2_with (first | (go_at_call 60; refine (allValid2_any _ _ _ _ _ (by first | rfl | simp)).mono ?_; rintro e w' ⟨rfl, rfl⟩) | (go_at_call 76; refine (cut_any _ _ _ (by omega) (by omega)).mono ?_; rintro e w' ⟨rfl, rfl⟩) | (go_at_call 64; go_in) | (go_at_call 80; go_in))
    go_ret
    exact ⟨ret_int E.out.symm, (Below.refl _ _).alloc (Nat.le_refl _) _⟩
  · have h : v2 k a b = false := by simpa using h
    have E := Lib.hid (show wsub k a b = -1 by unfold wsub; rw [h]; rfl)
    go_enter Try.func41, Try.ntmps41
    go_wp2_with (first | (go_at_call 60; refine (allValid2_any _ _ _ _ _ (by first | rfl | simp)).mono ?_; rintro e w' ⟨rfl, rfl⟩) | (go_at_call 64; go_in))
    go_ret
    exact ⟨ret_int E.out.symm, (Below.refl _ _).alloc (Nat.le_refl _) _⟩
theorem wsubS_any (k a b : Int) (w : World) :
    Calls Try.prog 46 #[.int .i64 k, .int .i64 a, .int .i64 b] w fun e w' => e = .returned (.int .i64 (wsub k a b)) ∧ w = w' := by
  by_cases h : v2 k a b = true
  · obtain ⟨h1, h2, h3, h4, h5, h6, h12⟩ := v2_bd h
    have E := Lib.hid (wsub_eq h)
    go_enter Try.func46, Try.ntmps46
    go_wp2_with (first | (go_at_call 84; refine (both_any _ _ _ _).mono ?_; rintro e w' ⟨rfl, rfl⟩) | (go_at_call 77; refine (l1Mod_any _ _ _ (by omega) (by omega)).mono ?_; rintro e w' ⟨rfl, rfl⟩))
    go_ret
    exact ⟨ret_int E.out.symm, rfl⟩
  · have h : v2 k a b = false := by simpa using h
    have E := Lib.hid (show wsub k a b = -1 by unfold wsub; rw [h]; rfl)
    go_enter Try.func46, Try.ntmps46
    go_wp2_with ((go_at_call 84; refine (both_any _ _ _ _).mono ?_; rintro e w' ⟨rfl, rfl⟩))
    go_ret
    exact ⟨ret_int E.out.symm, rfl⟩


theorem l1And_any (a b : Int) (w : World) (ha : 0 ≤ a) (ha1 : a < 1073741824) (hb : 0 ≤ b) (hb1 : b < 1073741824) :
    Calls Try.prog 86 #[.int .i64 a, .int .i64 b] w fun e w' => e = .returned (.int .i64 (andI a b)) ∧ w = w' := by
  have p30 : pw ((30 : Nat) : Int) = 1073741824 := rfl
  go_enter Try.func86, Try.ntmps86
  go_wp2
  go_loop [5, 6] (fun o i => ∃ n : Nat, n ≤ 30 ∧ i = .int .i64 n ∧ o = .int .i64 (andI (a % pw n) (b % pw n))) (fun _ i => 30 - (intOf i).toNat)
  case atStart => exact ⟨0, by omega, rfl, by simp [andI, pw_0]⟩
  case round =>
    obtain ⟨n, hn, rfl, rfl⟩ := hrel
    by_cases hlt : n < 30
    · have hs := Lib.hid (and_sum a b ha hb n)
      have b1 := bt_01 a n
      have b2 := bt_01 b n
      have hm : 0 ≤ bt a n * bt b n ∧ bt a n * bt b n ≤ 1 := by
        rcases (show bt a n = 0 ∨ bt a n = 1 by omega) with e | e <;> rw [e] <;> omega
      have hp := pw_pos n
      have hpl : pw (n : Int) ≤ 1073741824 := p30 ▸ pw_mono (by omega)
      have hmp : 0 ≤ bt a n * bt b n * pw n ∧ bt a n * bt b n * pw n ≤ 1073741824 := by
        rcases (show bt a n * bt b n = 0 ∨ bt a n * bt b n = 1 by omega) with e | e <;> rw [e] <;> omega
      have hw : IntKind.i64.wrap (bt a n * bt b n * 2 ^ n) = bt a n * bt b n * pw n := by
        have := shl_wrap (x := bt a n * bt b n) (k := (n : Int)) (by omega) (by omega)
        simpa using this
      have hb := and_bd (a % pw n) (b % pw n) (Int.emod_nonneg _ (by omega)) (Int.emod_nonneg _ (by omega))
      have hl := Int.emod_lt_of_pos a (b := pw n) (by omega)
      have HW := hw
      go_wp2_with (go_at_call 89; refine (l1Bit_any _ _ _ (by omega) (by omega) (by omega)).mono ?_; rintro e w' ⟨rfl, rfl⟩)
      go_round
      case rel => exact ⟨n + 1, by omega, by go_num, by rw [hs.out]⟩
      case measure => simp [intOf]; omega
    · obtain rfl : n = 30 := by omega
      have E := Lib.hid (show andI (a % pw ((30 : Nat) : Int)) (b % pw ((30 : Nat) : Int)) = andI a b by rw [emod_small (x := a) ha (by omega), emod_small (x := b) hb (by omega)])
      go_wp2
      go_ret
      exact ⟨ret_int E.out, rfl⟩

theorem wandI_any (k a b : Int) (w : World) :
    Calls Try.prog 48 #[.int .i64 k, .int .i64 a, .int .i64 b] w fun e w' => e = .returned (.int .i64 (wand k a b)) ∧ Below w.heap.size w w' := by
  by_cases h : v2 k a b = true
  · obtain ⟨h1, h2, h3, h4, h5, h6, h12⟩ := v2_bd h
    have hx := bits_and (a := a) (b := b) (by omega) (by omega) (by omega) (by omega)
    have E := Lib.hid (show wand k a b = andI a b % pw k by rw [wand_eq h, vX_small (vX_and h)])
    go_enter Try.func48, Try.ntmps48
    go_wp2_with (first | (go_at_call 60; refine (allValid2_any _ _ _ _ _ (by first | rfl | simp)).mono ?_; rintro e w' ⟨rfl, rfl⟩) | (go_at_call 76; refine (cut_any _ _ _ (by omega) (by omega)).mono ?_; rintro e w' ⟨rfl, rfl⟩) | (go_at_call 64; go_in) | (go_at_call 85; go_in))
    go_ret
    exact ⟨ret_int E.out.symm, (Below.refl _ _).alloc (Nat.le_refl _) _⟩
  · have h : v2 k a b = false := by simpa using h
    have E := Lib.hid (show wand k a b = -1 by unfold wand; rw [h]; rfl)
    go_enter Try.func48, Try.ntmps48
    go_wp2_with (first | (go_at_call 60; refine (allValid2_any _ _ _ _ _ (by first | rfl | simp)).mono ?_; rintro e w' ⟨rfl, rfl⟩) | (go_at_call 64; go_in))
    go_ret
    exact ⟨ret_int E.out.symm, (Below.refl _ _).alloc (Nat.le_refl _) _⟩
theorem wandS_any (k a b : Int) (w : World) :
    Calls Try.prog 49 #[.int .i64 k, .int .i64 a, .int .i64 b] w fun e w' => e = .returned (.int .i64 (wand k a b)) ∧ w = w' := by
  by_cases h : v2 k a b = true
  · obtain ⟨h1, h2, h3, h4, h5, h6, h12⟩ := v2_bd h
    have E := Lib.hid (wand_eq h)
    go_enter Try.func49, Try.ntmps49
    go_wp2_with (first | (go_at_call 84; refine (both_any _ _ _ _).mono ?_; rintro e w' ⟨rfl, rfl⟩) | (go_at_call 77; refine (l1Mod_any _ _ _ (by omega) (by omega)).mono ?_; rintro e w' ⟨rfl, rfl⟩) | (go_at_call 86; refine (l1And_any _ _ _ (by omega) (by omega) (by omega) (by omega)).mono ?_; rintro e w' ⟨rfl, rfl⟩))
    go_ret
    exact ⟨ret_int E.out.symm, rfl⟩
  · have h : v2 k a b = false := by simpa using h
    have E := Lib.hid (show wand k a b = -1 by unfold wand; rw [h]; rfl)
    go_enter Try.func49, Try.ntmps49
    go_wp2_with ((go_at_call 84; refine (both_any _ _ _ _).mono ?_; rintro e w' ⟨rfl, rfl⟩))
    go_ret
    exact ⟨ret_int E.out.symm, rfl⟩

theorem worI_any (k a b : Int) (w : World) :
    Calls Try.prog 50 #[.int .i64 k, .int .i64 a, .int .i64 b] w fun e w' => e = .returned (.int .i64 (wor k a b)) ∧ Below w.heap.size w w' := by
  by_cases h : v2 k a b = true
  · obtain ⟨h1, h2, h3, h4, h5, h6, h12⟩ := v2_bd h
    have hx := bits_or (a := a) (b := b) (by omega) (by omega) (by omega) (by omega)
    have E := Lib.hid (show wor k a b = orI a b % pw k by rw [wor_eq h, vX_small (vX_or h)])
    go_enter Try.func50, Try.ntmps50
    go_wp2_with (first | (go_at_call 60; refine (allValid2_any _ _ _ _ _ (by first | rfl | simp)).mono ?_; rintro e w' ⟨rfl, rfl⟩) | (go_at_call 76; refine (cut_any _ _ _ (by omega) (by omega)).mono ?_; rintro e w' ⟨rfl, rfl⟩) | (go_at_call 64; go_in) | (go_at_call 87; go_in))
    go_ret
    exact ⟨ret_int E.out.symm, (Below.refl _ _).alloc (Nat.le_refl _) _⟩
  · have h : v2 k a b = false := by simpa using h
    have E := Lib.hid (show wor k a b = -1 by unfold wor; rw [h]; rfl)
    go_enter Try.func50, Try.ntmps50
    go_wp2_with (first | (go_at_call 60; refine (allValid2_any _ _ _ _ _ (by first | rfl | simp)).mono ?_; rintro e w' ⟨rfl, rfl⟩) | (go_at_call 64; go_in))
    go_ret
    exact ⟨ret_int E.out.symm, (Below.refl _ _).alloc (Nat.le_refl _) _⟩


end Go.Proofs.Yteoalkgpdgoaeaa