/-
  THE WALKS OF THE WORDS' FUNCTIONS, 2: words of numbers, signs, moved bits. Each answers one plain function of its arguments; no condition.
-/
import Derived.Test.YteoalkgpdgoaeaaWalks
namespace Go.Proofs.Yteoalkgpdgoaeaa
open Go Go.RowKit Bw
set_option linter.unusedVariables false

theorem wordOfI_any (k n : Int) (w : World) :
    Calls Try.prog 36 #[.int .i64 k, .int .i64 n] w fun e w' => e = .returned (.int .i64 (wordOf k n)) ∧ w = w' := by
  by_cases h : vW k = true
  · have hb := vW_iff.mp h
    have E := Lib.hid (wordOf_eq (n := n) h)
    go_enter Try.func36, Try.ntmps36
    go_wp2_with (first | (go_at_call 74; refine (isWidth_any _ _).mono ?_; rintro e w' ⟨rfl, rfl⟩) | (go_at_call 76; refine (cut_any _ _ _ (by omega) (by omega)).mono ?_; rintro e w' ⟨rfl, rfl⟩))
    go_ret
    exact ⟨ret_int E.out.symm, rfl⟩
  · have h : vW k = false := by simpa using h
    have E := Lib.hid (show wordOf k n = -1 by unfold wordOf; rw [h]; rfl)
    go_enter Try.func36, Try.ntmps36
    go_wp2_with ((go_at_call 74; refine (isWidth_any _ _).mono ?_; rintro e w' ⟨rfl, rfl⟩))
    go_ret
    exact ⟨ret_int E.out.symm, rfl⟩
theorem wordOfS_any (k n : Int) (w : World) :
    Calls Try.prog 37 #[.int .i64 k, .int .i64 n] w fun e w' => e = .returned (.int .i64 (wordOf k n)) ∧ w = w' := by
  have hv : inB k 1 12 = vW k := rfl
  by_cases h : vW k = true
  · have hb := vW_iff.mp h
    have E := Lib.hid (wordOf_eq (n := n) h)
    go_enter Try.func37, Try.ntmps37
    go_wp2_with (first | (go_at_call 62; refine (l1In_any _ _ _ _).mono ?_; rintro e w' ⟨rfl, rfl⟩) | (go_at_call 77; refine (l1Mod_any _ _ _ (by omega) (by omega)).mono ?_; rintro e w' ⟨rfl, rfl⟩))
    go_ret
    exact ⟨ret_int E.out.symm, rfl⟩
  · have h : vW k = false := by simpa using h
    have E := Lib.hid (show wordOf k n = -1 by unfold wordOf; rw [h]; rfl)
    go_enter Try.func37, Try.ntmps37
    go_wp2_with ((go_at_call 62; refine (l1In_any _ _ _ _).mono ?_; rintro e w' ⟨rfl, rfl⟩))
    go_ret
    exact ⟨ret_int E.out.symm, rfl⟩
theorem signedOfI_any (k x : Int) (w : World) :
    Calls Try.prog 52 #[.int .i64 k, .int .i64 x] w fun e w' => e = .returned (.int .i64 (signedOf k x)) ∧ w = w' := by
  by_cases h : vX k x = true
  · have E := Lib.hid (signedOf_eq h)
    go_enter Try.func52, Try.ntmps52
    go_wp2_with (first | (go_at_call 33; refine (validI_any _ _ _).mono ?_; rintro e w' ⟨rfl, rfl⟩) | (go_at_call 88; refine (signed_any _ _ _ (by assumption)).mono ?_; rintro e w' ⟨rfl, rfl⟩))
    go_ret
    exact ⟨ret_int E.out.symm, rfl⟩
  · have h : vX k x = false := by simpa using h
    have E := Lib.hid (show signedOf k x = 0 by unfold signedOf; rw [h]; rfl)
    go_enter Try.func52, Try.ntmps52
    go_wp2_with ((go_at_call 33; refine (validI_any _ _ _).mono ?_; rintro e w' ⟨rfl, rfl⟩))
    go_ret
    exact ⟨ret_int E.out.symm, rfl⟩
theorem signedOfS_any (k x : Int) (w : World) :
    Calls Try.prog 53 #[.int .i64 k, .int .i64 x] w fun e w' => e = .returned (.int .i64 (signedOf k x)) ∧ w = w' := by
  by_cases h : vX k x = true
  · obtain ⟨h1, h2, h3, h4, h12⟩ := vX_bd h
    have hs := shl_one (k := k) (by omega)
    have ht := bt_top h1 h3 h4
    by_cases hx : pw (k - 1) ≤ x
    · rw [if_pos hx] at ht
      have E := Lib.hid (show signedOf k x = x - pw k by rw [signedOf_eq h]; unfold sg; rw [if_pos hx])
      go_enter Try.func53, Try.ntmps53
      go_wp2_with (first | (go_at_call 34; refine (validS_any _ _ _).mono ?_; rintro e w' ⟨rfl, rfl⟩) | (go_at_call 89; refine (l1Bit_any _ _ _ (by omega) (by omega) (by omega)).mono ?_; rintro e w' ⟨rfl, rfl⟩))
      go_ret
      exact ⟨ret_int E.out.symm, rfl⟩
    · rw [if_neg hx] at ht
      have E := Lib.hid (show signedOf k x = x by rw [signedOf_eq h]; unfold sg; rw [if_neg hx])
      go_enter Try.func53, Try.ntmps53
      go_wp2_with (first | (go_at_call 34; refine (validS_any _ _ _).mono ?_; rintro e w' ⟨rfl, rfl⟩) | (go_at_call 89; refine (l1Bit_any _ _ _ (by omega) (by omega) (by omega)).mono ?_; rintro e w' ⟨rfl, rfl⟩))
      go_ret
      exact ⟨ret_int E.out.symm, rfl⟩
  · have h : vX k x = false := by simpa using h
    have E := Lib.hid (show signedOf k x = 0 by unfold signedOf; rw [h]; rfl)
    go_enter Try.func53, Try.ntmps53
    go_wp2_with ((go_at_call 34; refine (validS_any _ _ _).mono ?_; rintro e w' ⟨rfl, rfl⟩))
    go_ret
    exact ⟨ret_int E.out.symm, rfl⟩
theorem wnotI_any (k x : Int) (w : World) :
    Calls Try.prog 39 #[.int .i64 k, .int .i64 x] w fun e w' => e = .returned (.int .i64 (wnot k x)) ∧ w = w' := by
  by_cases h : vX k x = true
  · obtain ⟨h1, h2, h3, h4, h12⟩ := vX_bd h
    have hx := xor_neg1 (n := x) (by omega) (by omega)
    have e : wnot k x = (-1 - x) % pw k := by
      rw [wnot_eq h]
      have := vX_iff.mp (vX_wnot h)
      rw [wnot_eq h] at this
      rw [← emod_small this.2.2.1 this.2.2.2]
      exact cong 1 (by omega)
    have E := Lib.hid e
    clear e
    go_enter Try.func39, Try.ntmps39
    go_wp2_with (first | (go_at_call 33; refine (validI_any _ _ _).mono ?_; rintro e w' ⟨rfl, rfl⟩) | (go_at_call 76; refine (cut_any _ _ _ (by omega) (by omega)).mono ?_; rintro e w' ⟨rfl, rfl⟩) | (go_at_call 78; go_in) | (go_at_call 79; go_in))
    go_ret
    exact ⟨ret_int E.out.symm, rfl⟩
  · have h : vX k x = false := by simpa using h
    have E := Lib.hid (show wnot k x = -1 by unfold wnot; rw [h]; rfl)
    go_enter Try.func39, Try.ntmps39
    go_wp2_with (first | (go_at_call 33; refine (validI_any _ _ _).mono ?_; rintro e w' ⟨rfl, rfl⟩) | (go_at_call 78; go_in))
    go_ret
    exact ⟨ret_int E.out.symm, rfl⟩
theorem wnotS_any (k x : Int) (w : World) :
    Calls Try.prog 40 #[.int .i64 k, .int .i64 x] w fun e w' => e = .returned (.int .i64 (wnot k x)) ∧ w = w' := by
  by_cases h : vX k x = true
  · obtain ⟨h1, h2, h3, h4, h12⟩ := vX_bd h
    have hs := shl_one (k := k) (by omega)
    have E := Lib.hid (wnot_eq h)
    go_enter Try.func40, Try.ntmps40
    go_wp2_with ((go_at_call 34; refine (validS_any _ _ _).mono ?_; rintro e w' ⟨rfl, rfl⟩))
    go_ret
    exact ⟨ret_int E.out.symm, rfl⟩
  · have h : vX k x = false := by simpa using h
    have E := Lib.hid (show wnot k x = -1 by unfold wnot; rw [h]; rfl)
    go_enter Try.func40, Try.ntmps40
    go_wp2_with ((go_at_call 34; refine (validS_any _ _ _).mono ?_; rintro e w' ⟨rfl, rfl⟩))
    go_ret
    exact ⟨ret_int E.out.symm, rfl⟩
theorem below_new1 (w : World) (a : Obj) : Below w.heap.size w (w.alloc a) := (Below.refl _ _).alloc (Nat.le_refl _) _
theorem below_new2 (w : World) (a b : Obj) : Below w.heap.size w ((w.alloc a).alloc b) := (below_new1 w a).alloc (by simp) _
theorem below_new3 (w : World) (a b c : Obj) : Below w.heap.size w (((w.alloc a).alloc b).alloc c) := (below_new2 w a b).alloc (by simp; omega) _
theorem pwk_bd {k : Int} (h : k ≤ 12) : 1 ≤ pw k ∧ pw k ≤ 4096 := ⟨pw_pos k, pw_le12 h⟩
theorem shl_bd {x k : Int} (h0 : 0 ≤ x) (h1 : x ≤ 4096) (h : k ≤ 12) : 0 ≤ x * pw k ∧ x * pw k ≤ 16777216 := by
  obtain ⟨a, b⟩ := pwk_bd h
  have h7 : x * pw k ≤ 4096 * pw k := Int.mul_le_mul_of_nonneg_right (by omega) (by omega)
  exact ⟨Int.mul_nonneg h0 (by omega), by omega⟩
theorem shl_small {x k : Int} (h0 : 0 ≤ x) (h1 : x ≤ 4096) (h : k ≤ 12) : IntKind.i64.wrap (x * 2 ^ k.toNat) = x * pw k := by
  have := shl_bd h0 h1 h
  exact shl_wrap (by omega) (by omega)
theorem shr_eq (x k : Int) : x / 2 ^ k.toNat = x / pw k := rfl

theorem wrightI_any (k x n : Int) (w : World) :
    Calls Try.prog 43 #[.int .i64 k, .int .i64 x, .int .i64 n] w fun e w' => e = .returned (.int .i64 (wright k x n)) ∧ Below w.heap.size w w' := by
  have hv : inB n 0 12 = vB n := rfl
  by_cases h : vX k x = true
  · obtain ⟨h1, h2, h3, h4, h12⟩ := vX_bd h
    by_cases hn : vB n = true
    · obtain ⟨n0, n1⟩ := vB_iff.mp hn
      have hk := Lib.hid (vK_iff.mpr ⟨h, hn⟩)
      have d0 := div_nonneg (x := x) (k := n) h3
      have d1 := div_le (x := x) (k := n) h3
      have hr := shr_eq x n
      have E := Lib.hid (show wright k x n = (x / pw n) % pw k by rw [wright_eq hk.out, Int.emod_eq_of_lt d0 (by omega)])
      go_enter Try.func43, Try.ntmps43
      go_wp2_with (first | (go_at_call 33; refine (validI_any _ _ _).mono ?_; rintro e w' ⟨rfl, rfl⟩) | (go_at_call 72; refine (within_any _ _ _ _).mono ?_; rintro e w' ⟨rfl, rfl⟩) | (go_at_call 76; refine (cut_any _ _ _ (by omega) (by omega)).mono ?_; rintro e w' ⟨rfl, rfl⟩) | (go_at_call 82; go_in) | (go_at_call 83; go_in))
      go_ret
      exact ⟨ret_int E.out.symm, by first | exact below_new3 _ _ _ _ | exact below_new2 _ _ _ | exact below_new1 _ _ | exact below_drewN (below_new3 _ _ _ _) _ | exact Below.refl _ _⟩
    · have hn : vB n = false := by simpa using hn
      have E := Lib.hid (show wright k x n = -1 by unfold wright vK; rw [h, hn]; rfl)
      go_enter Try.func43, Try.ntmps43
      go_wp2_with (first | (go_at_call 33; refine (validI_any _ _ _).mono ?_; rintro e w' ⟨rfl, rfl⟩) | (go_at_call 72; refine (within_any _ _ _ _).mono ?_; rintro e w' ⟨rfl, rfl⟩) | (go_at_call 82; go_in))
      go_ret
      exact ⟨ret_int E.out.symm, by first | exact below_new3 _ _ _ _ | exact below_new2 _ _ _ | exact below_new1 _ _ | exact below_drewN (below_new3 _ _ _ _) _ | exact Below.refl _ _⟩
  · have h : vX k x = false := by simpa using h
    have E := Lib.hid (show wright k x n = -1 by unfold wright vK; rw [h]; rfl)
    go_enter Try.func43, Try.ntmps43
    go_wp2_with (first | (go_at_call 33; refine (validI_any _ _ _).mono ?_; rintro e w' ⟨rfl, rfl⟩) | (go_at_call 72; refine (within_any _ _ _ _).mono ?_; rintro e w' ⟨rfl, rfl⟩) | (go_at_call 82; go_in))
    go_ret
    exact ⟨ret_int E.out.symm, by first | exact below_new3 _ _ _ _ | exact below_new2 _ _ _ | exact below_new1 _ _ | exact below_drewN (below_new3 _ _ _ _) _ | exact Below.refl _ _⟩
theorem wrightS_any (k x n : Int) (w : World) :
    Calls Try.prog 44 #[.int .i64 k, .int .i64 x, .int .i64 n] w fun e w' => e = .returned (.int .i64 (wright k x n)) ∧ w = w' := by
  have hv : inB n 0 12 = vB n := rfl
  by_cases h : vX k x = true
  · obtain ⟨h1, h2, h3, h4, h12⟩ := vX_bd h
    by_cases hn : vB n = true
    · obtain ⟨n0, n1⟩ := vB_iff.mp hn
      have hk := Lib.hid (vK_iff.mpr ⟨h, hn⟩)
      have hr := shr_eq x n
      have E := Lib.hid (wright_eq hk.out)
      go_enter Try.func44, Try.ntmps44
      go_wp2_with (first | (go_at_call 34; refine (validS_any _ _ _).mono ?_; rintro e w' ⟨rfl, rfl⟩) | (go_at_call 62; refine (l1In_any _ _ _ _).mono ?_; rintro e w' ⟨rfl, rfl⟩) | (go_at_call 77; refine (l1Mod_any _ _ _ (by omega) (by omega)).mono ?_; rintro e w' ⟨rfl, rfl⟩))
      go_ret
      exact ⟨ret_int E.out.symm, rfl⟩
    · have hn : vB n = false := by simpa using hn
      have E := Lib.hid (show wright k x n = -1 by unfold wright vK; rw [h, hn]; rfl)
      go_enter Try.func44, Try.ntmps44
      go_wp2_with (first | (go_at_call 34; refine (validS_any _ _ _).mono ?_; rintro e w' ⟨rfl, rfl⟩) | (go_at_call 62; refine (l1In_any _ _ _ _).mono ?_; rintro e w' ⟨rfl, rfl⟩))
      go_ret
      exact ⟨ret_int E.out.symm, rfl⟩
  · have h : vX k x = false := by simpa using h
    have E := Lib.hid (show wright k x n = -1 by unfold wright vK; rw [h]; rfl)
    go_enter Try.func44, Try.ntmps44
    go_wp2_with (first | (go_at_call 34; refine (validS_any _ _ _).mono ?_; rintro e w' ⟨rfl, rfl⟩) | (go_at_call 62; refine (l1In_any _ _ _ _).mono ?_; rintro e w' ⟨rfl, rfl⟩))
    go_ret
    exact ⟨ret_int E.out.symm, rfl⟩
end Go.Proofs.Yteoalkgpdgoaeaa