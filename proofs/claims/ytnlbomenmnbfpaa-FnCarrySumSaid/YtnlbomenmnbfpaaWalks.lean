/-
  THE WALKS OF THE WORDS' FUNCTIONS, the program's and the reference's: each answers one plain function of its arguments; no condition.
-/
import Derived.Test.YtnlbomenmnbfpaaLeaf
import Derived.Test.YtnlbomenmnbfpaaWordLaws
namespace Go.Proofs.Ytnlbomenmnbfpaa
open Go Go.RowKit Bw
set_option linter.unusedVariables false
theorem v2_bd {k a b : Int} (h : v2 k a b = true) : 1 ≤ k ∧ k ≤ 12 ∧ 0 ≤ a ∧ a < pw k ∧ 0 ≤ b ∧ b < pw k ∧ pw k ≤ 4096 := by
  obtain ⟨ha, hb⟩ := v2_iff.mp h
  obtain ⟨h1, h2, h3, h4⟩ := vX_iff.mp ha
  obtain ⟨_, _, h5, h6⟩ := vX_iff.mp hb
  exact ⟨h1, h2, h3, h4, h5, h6, pw_le12 h2⟩
theorem vX_bd {k a : Int} (h : vX k a = true) : 1 ≤ k ∧ k ≤ 12 ∧ 0 ≤ a ∧ a < pw k ∧ pw k ≤ 4096 := by
  obtain ⟨h1, h2, h3, h4⟩ := vX_iff.mp h
  exact ⟨h1, h2, h3, h4, pw_le12 h2⟩
theorem mul_bd {a b : Int} (h0 : 0 ≤ a) (h1 : a < 4096) (h2 : 0 ≤ b) (h3 : b < 4096) : 0 ≤ a * b ∧ a * b ≤ 16777216 := by
  have h7 : a * b ≤ 4096 * b := Int.mul_le_mul_of_nonneg_right (by omega) h2
  exact ⟨Int.mul_nonneg h0 h2, by omega⟩

theorem waddI_any (k a b : Int) (w : World) :
    Calls Try.prog 25 #[.int .i64 k, .int .i64 a, .int .i64 b] w fun e w' => e = .returned (.int .i64 (wadd k a b)) ∧ Below w.heap.size w w' := by
  by_cases h : v2 k a b = true
  · obtain ⟨h1, h2, h3, h4, h5, h6, h12⟩ := v2_bd h
    have E := Lib.hid (wadd_eq h)
    go_enter Try.func25, Try.ntmps25
    go_wp2_with (first | (go_at_call 87; refine (allValid2_any _ _ _ _ _ (by first | rfl | simp)).mono ?_; rintro e w' ⟨rfl, rfl⟩) | (go_at_call 76; refine (cut_any _ _ _ (by omega) (by omega)).mono ?_; rintro e w' ⟨rfl, rfl⟩) | (go_at_call 66; go_in) | (go_at_call 74; go_in))
    go_ret
    exact ⟨ret_int E.out.symm, (Below.refl _ _).alloc (Nat.le_refl _) _⟩
  · have h : v2 k a b = false := by simpa using h
    have E := Lib.hid (show wadd k a b = -1 by unfold wadd; rw [h]; rfl)
    go_enter Try.func25, Try.ntmps25
    go_wp2_with (first | (go_at_call 87; refine (allValid2_any _ _ _ _ _ (by first | rfl | simp)).mono ?_; rintro e w' ⟨rfl, rfl⟩) | (go_at_call 66; go_in))
    go_ret
    exact ⟨ret_int E.out.symm, (Below.refl _ _).alloc (Nat.le_refl _) _⟩
theorem waddS_any (k a b : Int) (w : World) :
    Calls Try.prog 99 #[.int .i64 k, .int .i64 a, .int .i64 b] w fun e w' => e = .returned (.int .i64 (wadd k a b)) ∧ w = w' := by
  by_cases h : v2 k a b = true
  · obtain ⟨h1, h2, h3, h4, h5, h6, h12⟩ := v2_bd h
    have E := Lib.hid (wadd_eq h)
    go_enter Try.func99, Try.ntmps99
    go_wp2_with (first | (go_at_call 68; refine (both_any _ _ _ _).mono ?_; rintro e w' ⟨rfl, rfl⟩) | (go_at_call 73; refine (l1Mod_any _ _ _ (by omega) (by omega)).mono ?_; rintro e w' ⟨rfl, rfl⟩))
    go_ret
    exact ⟨ret_int E.out.symm, rfl⟩
  · have h : v2 k a b = false := by simpa using h
    have E := Lib.hid (show wadd k a b = -1 by unfold wadd; rw [h]; rfl)
    go_enter Try.func99, Try.ntmps99
    go_wp2_with ((go_at_call 68; refine (both_any _ _ _ _).mono ?_; rintro e w' ⟨rfl, rfl⟩))
    go_ret
    exact ⟨ret_int E.out.symm, rfl⟩

theorem wsubS_any (k a b : Int) (w : World) :
    Calls Try.prog 101 #[.int .i64 k, .int .i64 a, .int .i64 b] w fun e w' => e = .returned (.int .i64 (wsub k a b)) ∧ w = w' := by
  by_cases h : v2 k a b = true
  · obtain ⟨h1, h2, h3, h4, h5, h6, h12⟩ := v2_bd h
    have E := Lib.hid (wsub_eq h)
    go_enter Try.func101, Try.ntmps101
    go_wp2_with (first | (go_at_call 68; refine (both_any _ _ _ _).mono ?_; rintro e w' ⟨rfl, rfl⟩) | (go_at_call 73; refine (l1Mod_any _ _ _ (by omega) (by omega)).mono ?_; rintro e w' ⟨rfl, rfl⟩))
    go_ret
    exact ⟨ret_int E.out.symm, rfl⟩
  · have h : v2 k a b = false := by simpa using h
    have E := Lib.hid (show wsub k a b = -1 by unfold wsub; rw [h]; rfl)
    go_enter Try.func101, Try.ntmps101
    go_wp2_with ((go_at_call 68; refine (both_any _ _ _ _).mono ?_; rintro e w' ⟨rfl, rfl⟩))
    go_ret
    exact ⟨ret_int E.out.symm, rfl⟩

theorem wtimesI_any (k a b : Int) (w : World) :
    Calls Try.prog 23 #[.int .i64 k, .int .i64 a, .int .i64 b] w fun e w' => e = .returned (.int .i64 (wtimes k a b)) ∧ Below w.heap.size w w' := by
  by_cases h : v2 k a b = true
  · obtain ⟨h1, h2, h3, h4, h5, h6, h12⟩ := v2_bd h
    have hm := mul_bd (a := a) (b := b) (by omega) (by omega) (by omega) (by omega)
    have E := Lib.hid (wtimes_eq h)
    go_enter Try.func23, Try.ntmps23
    go_wp2_with (first | (go_at_call 87; refine (allValid2_any _ _ _ _ _ (by first | rfl | simp)).mono ?_; rintro e w' ⟨rfl, rfl⟩) | (go_at_call 76; refine (cut_any _ _ _ (by omega) (by omega)).mono ?_; rintro e w' ⟨rfl, rfl⟩) | (go_at_call 66; go_in) | (go_at_call 72; go_in))
    go_ret
    exact ⟨ret_int E.out.symm, (Below.refl _ _).alloc (Nat.le_refl _) _⟩
  · have h : v2 k a b = false := by simpa using h
    have E := Lib.hid (show wtimes k a b = -1 by unfold wtimes; rw [h]; rfl)
    go_enter Try.func23, Try.ntmps23
    go_wp2_with (first | (go_at_call 87; refine (allValid2_any _ _ _ _ _ (by first | rfl | simp)).mono ?_; rintro e w' ⟨rfl, rfl⟩) | (go_at_call 66; go_in))
    go_ret
    exact ⟨ret_int E.out.symm, (Below.refl _ _).alloc (Nat.le_refl _) _⟩
theorem wtimesS_any (k a b : Int) (w : World) :
    Calls Try.prog 24 #[.int .i64 k, .int .i64 a, .int .i64 b] w fun e w' => e = .returned (.int .i64 (wtimes k a b)) ∧ w = w' := by
  by_cases h : v2 k a b = true
  · obtain ⟨h1, h2, h3, h4, h5, h6, h12⟩ := v2_bd h
    have hm := mul_bd (a := a) (b := b) (by omega) (by omega) (by omega) (by omega)
    have E := Lib.hid (wtimes_eq h)
    go_enter Try.func24, Try.ntmps24
    go_wp2_with (first | (go_at_call 68; refine (both_any _ _ _ _).mono ?_; rintro e w' ⟨rfl, rfl⟩) | (go_at_call 73; refine (l1Mod_any _ _ _ (by omega) (by omega)).mono ?_; rintro e w' ⟨rfl, rfl⟩))
    go_ret
    exact ⟨ret_int E.out.symm, rfl⟩
  · have h : v2 k a b = false := by simpa using h
    have E := Lib.hid (show wtimes k a b = -1 by unfold wtimes; rw [h]; rfl)
    go_enter Try.func24, Try.ntmps24
    go_wp2_with ((go_at_call 68; refine (both_any _ _ _ _).mono ?_; rintro e w' ⟨rfl, rfl⟩))
    go_ret
    exact ⟨ret_int E.out.symm, rfl⟩

theorem l1And_any (a b : Int) (w : World) (ha : 0 ≤ a) (ha1 : a < 1073741824) (hb : 0 ≤ b) (hb1 : b < 1073741824) :
    Calls Try.prog 93 #[.int .i64 a, .int .i64 b] w fun e w' => e = .returned (.int .i64 (andI a b)) ∧ w = w' := by
  have p30 : pw ((30 : Nat) : Int) = 1073741824 := rfl
  go_enter Try.func93, Try.ntmps93
  go_wp2
  go_loop [5, 6] (fun o i => ∃ n : Nat, n ≤ 30 ∧ i = .int .i64 n ∧ o = .int .i64 (andI (a % pw n) (b % pw n))) (fun _ i => 30 - (intOf i).toNat)
  case atStart => exact ⟨0, by omega, rfl, by simp [andI, pw_0]⟩
  case round =>
    obtain ⟨n, hn, rfl, rfl⟩ := hrel
    by_cases hlt : n < 30
    · have hs := Lib.hid (and_sum a b ha hb n)
      have b1 := bt_01 a n
      have b2 := bt_01 b n
      have hm : 0 ≤ bt a n * bt b n ∧ bt a n * bt b n ≤ 1 := by
        rcases (show bt a n = 0 ∨ bt a n = 1 by omega) with e | e <;> rw [e] <;> omega
      have hp := pw_pos n
      have hpl : pw (n : Int) ≤ 1073741824 := p30 ▸ pw_mono (by omega)
      have hmp : 0 ≤ bt a n * bt b n * pw n ∧ bt a n * bt b n * pw n ≤ 1073741824 := by
        rcases (show bt a n * bt b n = 0 ∨ bt a n * bt b n = 1 by omega) with e | e <;> rw [e] <;> omega
      have hw : IntKind.i64.wrap (bt a n * bt b n * 2 ^ n) = bt a n * bt b n * pw n := by
        have := shl_wrap (x := bt a n * bt b n) (k := (n : Int)) (by omega) (by omega)
        simpa using this
      have hb := and_bd (a % pw n) (b % pw n) (Int.emod_nonneg _ (by omega)) (Int.emod_nonneg _ (by omega))
      have hl := Int.emod_lt_of_pos a (b := pw n) (by omega)
      have HW := hw
      go_wp2_with (go_at_call 89; refine (l1Bit_any _ _ _ (by omega) (by omega) (by omega)).mono ?_; rintro e w' ⟨rfl, rfl⟩)
      go_round
      case rel => exact ⟨n + 1, by omega, by go_num, by rw [hs.out]⟩
      case measure => simp [intOf]; omega
    · obtain rfl : n = 30 := by omega
      have E := Lib.hid (show andI (a % pw ((30 : Nat) : Int)) (b % pw ((30 : Nat) : Int)) = andI a b by rw [emod_small (x := a) ha (by omega), emod_small (x := b) hb (by omega)])
      go_wp2
      go_ret
      exact ⟨ret_int E.out, rfl⟩

theorem wandI_any (k a b : Int) (w : World) :
    Calls Try.prog 21 #[.int .i64 k, .int .i64 a, .int .i64 b] w fun e w' => e = .returned (.int .i64 (wand k a b)) ∧ Below w.heap.size w w' := by
  by_cases h : v2 k a b = true
  · obtain ⟨h1, h2, h3, h4, h5, h6, h12⟩ := v2_bd h
    have hx := bits_and (a := a) (b := b) (by omega) (by omega) (by omega) (by omega)
    have E := Lib.hid (show wand k a b = andI a b % pw k by rw [wand_eq h, vX_small (vX_and h)])
    go_enter Try.func21, Try.ntmps21
    go_wp2_with (first | (go_at_call 87; refine (allValid2_any _ _ _ _ _ (by first | rfl | simp)).mono ?_; rintro e w' ⟨rfl, rfl⟩) | (go_at_call 76; refine (cut_any _ _ _ (by omega) (by omega)).mono ?_; rintro e w' ⟨rfl, rfl⟩) | (go_at_call 66; go_in) | (go_at_call 71; go_in))
    go_ret
    exact ⟨ret_int E.out.symm, (Below.refl _ _).alloc (Nat.le_refl _) _⟩
  · have h : v2 k a b = false := by simpa using h
    have E := Lib.hid (show wand k a b = -1 by unfold wand; rw [h]; rfl)
    go_enter Try.func21, Try.ntmps21
    go_wp2_with (first | (go_at_call 87; refine (allValid2_any _ _ _ _ _ (by first | rfl | simp)).mono ?_; rintro e w' ⟨rfl, rfl⟩) | (go_at_call 66; go_in))
    go_ret
    exact ⟨ret_int E.out.symm, (Below.refl _ _).alloc (Nat.le_refl _) _⟩

theorem worI_any (k a b : Int) (w : World) :
    Calls Try.prog 17 #[.int .i64 k, .int .i64 a, .int .i64 b] w fun e w' => e = .returned (.int .i64 (wor k a b)) ∧ Below w.heap.size w w' := by
  by_cases h : v2 k a b = true
  · obtain ⟨h1, h2, h3, h4, h5, h6, h12⟩ := v2_bd h
    have hx := bits_or (a := a) (b := b) (by omega) (by omega) (by omega) (by omega)
    have E := Lib.hid (show wor k a b = orI a b % pw k by rw [wor_eq h, vX_small (vX_or h)])
    go_enter Try.func17, Try.ntmps17
    go_wp2_with (first | (go_at_call 87; refine (allValid2_any _ _ _ _ _ (by first | rfl | simp)).mono ?_; rintro e w' ⟨rfl, rfl⟩) | (go_at_call 76; refine (cut_any _ _ _ (by omega) (by omega)).mono ?_; rintro e w' ⟨rfl, rfl⟩) | (go_at_call 66; go_in) | (go_at_call 67; go_in))
    go_ret
    exact ⟨ret_int E.out.symm, (Below.refl _ _).alloc (Nat.le_refl _) _⟩
  · have h : v2 k a b = false := by simpa using h
    have E := Lib.hid (show wor k a b = -1 by unfold wor; rw [h]; rfl)
    go_enter Try.func17, Try.ntmps17
    go_wp2_with (first | (go_at_call 87; refine (allValid2_any _ _ _ _ _ (by first | rfl | simp)).mono ?_; rintro e w' ⟨rfl, rfl⟩) | (go_at_call 66; go_in))
    go_ret
    exact ⟨ret_int E.out.symm, (Below.refl _ _).alloc (Nat.le_refl _) _⟩
theorem worS_any (k a b : Int) (w : World) :
    Calls Try.prog 18 #[.int .i64 k, .int .i64 a, .int .i64 b] w fun e w' => e = .returned (.int .i64 (wor k a b)) ∧ w = w' := by
  by_cases h : v2 k a b = true
  · obtain ⟨h1, h2, h3, h4, h5, h6, h12⟩ := v2_bd h
    have hn := and_bd a b h3 h5
    have E := Lib.hid (show wor k a b = a + b - andI a b by rw [wor_eq h, or_and a b h3 h5])
    go_enter Try.func18, Try.ntmps18
    go_wp2_with (first | (go_at_call 68; refine (both_any _ _ _ _).mono ?_; rintro e w' ⟨rfl, rfl⟩) | (go_at_call 73; refine (l1Mod_any _ _ _ (by omega) (by omega)).mono ?_; rintro e w' ⟨rfl, rfl⟩) | (go_at_call 93; refine (l1And_any _ _ _ (by omega) (by omega) (by omega) (by omega)).mono ?_; rintro e w' ⟨rfl, rfl⟩) | (go_at_call 69; go_in))
    go_ret
    exact ⟨ret_int E.out.symm, rfl⟩
  · have h : v2 k a b = false := by simpa using h
    have E := Lib.hid (show wor k a b = -1 by unfold wor; rw [h]; rfl)
    go_enter Try.func18, Try.ntmps18
    go_wp2_with ((go_at_call 68; refine (both_any _ _ _ _).mono ?_; rintro e w' ⟨rfl, rfl⟩))
    go_ret
    exact ⟨ret_int E.out.symm, rfl⟩

theorem wxorI_any (k a b : Int) (w : World) :
    Calls Try.prog 20 #[.int .i64 k, .int .i64 a, .int .i64 b] w fun e w' => e = .returned (.int .i64 (wxor k a b)) ∧ Below w.heap.size w w' := by
  by_cases h : v2 k a b = true
  · obtain ⟨h1, h2, h3, h4, h5, h6, h12⟩ := v2_bd h
    have hx := bits_xor (a := a) (b := b) (by omega) (by omega) (by omega) (by omega)
    have E := Lib.hid (show wxor k a b = xorI a b % pw k by rw [wxor_eq h, vX_small (vX_xor h)])
    go_enter Try.func20, Try.ntmps20
    go_wp2_with (first | (go_at_call 87; refine (allValid2_any _ _ _ _ _ (by first | rfl | simp)).mono ?_; rintro e w' ⟨rfl, rfl⟩) | (go_at_call 76; refine (cut_any _ _ _ (by omega) (by omega)).mono ?_; rintro e w' ⟨rfl, rfl⟩) | (go_at_call 66; go_in) | (go_at_call 70; go_in))
    go_ret
    exact ⟨ret_int E.out.symm, (Below.refl _ _).alloc (Nat.le_refl _) _⟩
  · have h : v2 k a b = false := by simpa using h
    have E := Lib.hid (show wxor k a b = -1 by unfold wxor; rw [h]; rfl)
    go_enter Try.func20, Try.ntmps20
    go_wp2_with (first | (go_at_call 87; refine (allValid2_any _ _ _ _ _ (by first | rfl | simp)).mono ?_; rintro e w' ⟨rfl, rfl⟩) | (go_at_call 66; go_in))
    go_ret
    exact ⟨ret_int E.out.symm, (Below.refl _ _).alloc (Nat.le_refl _) _⟩
theorem wxorS_any (k a b : Int) (w : World) :
    Calls Try.prog 36 #[.int .i64 k, .int .i64 a, .int .i64 b] w fun e w' => e = .returned (.int .i64 (wxor k a b)) ∧ w = w' := by
  by_cases h : v2 k a b = true
  · obtain ⟨h1, h2, h3, h4, h5, h6, h12⟩ := v2_bd h
    have hn := and_bd a b h3 h5
    have E := Lib.hid (show wxor k a b = a + b - 2 * andI a b by rw [wxor_eq h, xor_and a b h3 h5])
    go_enter Try.func36, Try.ntmps36
    go_wp2_with (first | (go_at_call 68; refine (both_any _ _ _ _).mono ?_; rintro e w' ⟨rfl, rfl⟩) | (go_at_call 73; refine (l1Mod_any _ _ _ (by omega) (by omega)).mono ?_; rintro e w' ⟨rfl, rfl⟩) | (go_at_call 93; refine (l1And_any _ _ _ (by omega) (by omega) (by omega) (by omega)).mono ?_; rintro e w' ⟨rfl, rfl⟩) | (go_at_call 86; go_in))
    go_ret
    exact ⟨ret_int E.out.symm, rfl⟩
  · have h : v2 k a b = false := by simpa using h
    have E := Lib.hid (show wxor k a b = -1 by unfold wxor; rw [h]; rfl)
    go_enter Try.func36, Try.ntmps36
    go_wp2_with ((go_at_call 68; refine (both_any _ _ _ _).mono ?_; rintro e w' ⟨rfl, rfl⟩))
    go_ret
    exact ⟨ret_int E.out.symm, rfl⟩

end Go.Proofs.Ytnlbomenmnbfpaa