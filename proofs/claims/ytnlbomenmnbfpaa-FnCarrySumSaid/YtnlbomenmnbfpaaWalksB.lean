/-
  THE WALKS OF THE WORDS' FUNCTIONS, 2: words of numbers, signs, moved bits. Each answers one plain function of its arguments; no condition.
-/
import Derived.Test.YtnlbomenmnbfpaaWalks
namespace Go.Proofs.Ytnlbomenmnbfpaa
open Go Go.RowKit Bw
set_option linter.unusedVariables false

theorem wordOfI_any (k n : Int) (w : World) :
    Calls Try.prog 26 #[.int .i64 k, .int .i64 n] w fun e w' => e = .returned (.int .i64 (wordOf k n)) ∧ w = w' := by
  by_cases h : vW k = true
  · have hb := vW_iff.mp h
    have E := Lib.hid (wordOf_eq (n := n) h)
    go_enter Try.func26, Try.ntmps26
    go_wp2_with (first | (go_at_call 75; refine (isWidth_any _ _).mono ?_; rintro e w' ⟨rfl, rfl⟩) | (go_at_call 76; refine (cut_any _ _ _ (by omega) (by omega)).mono ?_; rintro e w' ⟨rfl, rfl⟩))
    go_ret
    exact ⟨ret_int E.out.symm, rfl⟩
  · have h : vW k = false := by simpa using h
    have E := Lib.hid (show wordOf k n = -1 by unfold wordOf; rw [h]; rfl)
    go_enter Try.func26, Try.ntmps26
    go_wp2_with ((go_at_call 75; refine (isWidth_any _ _).mono ?_; rintro e w' ⟨rfl, rfl⟩))
    go_ret
    exact ⟨ret_int E.out.symm, rfl⟩
theorem signedOfI_any (k x : Int) (w : World) :
    Calls Try.prog 27 #[.int .i64 k, .int .i64 x] w fun e w' => e = .returned (.int .i64 (signedOf k x)) ∧ w = w' := by
  by_cases h : vX k x = true
  · have E := Lib.hid (signedOf_eq h)
    go_enter Try.func27, Try.ntmps27
    go_wp2_with (first | (go_at_call 31; refine (validI_any _ _ _).mono ?_; rintro e w' ⟨rfl, rfl⟩) | (go_at_call 77; refine (signed_any _ _ _ (by assumption)).mono ?_; rintro e w' ⟨rfl, rfl⟩))
    go_ret
    exact ⟨ret_int E.out.symm, rfl⟩
  · have h : vX k x = false := by simpa using h
    have E := Lib.hid (show signedOf k x = 0 by unfold signedOf; rw [h]; rfl)
    go_enter Try.func27, Try.ntmps27
    go_wp2_with ((go_at_call 31; refine (validI_any _ _ _).mono ?_; rintro e w' ⟨rfl, rfl⟩))
    go_ret
    exact ⟨ret_int E.out.symm, rfl⟩
theorem signedOfS_any (k x : Int) (w : World) :
    Calls Try.prog 98 #[.int .i64 k, .int .i64 x] w fun e w' => e = .returned (.int .i64 (signedOf k x)) ∧ w = w' := by
  by_cases h : vX k x = true
  · obtain ⟨h1, h2, h3, h4, h12⟩ := vX_bd h
    have hs := shl_one (k := k) (by omega)
    have ht := bt_top h1 h3 h4
    by_cases hx : pw (k - 1) ≤ x
    · rw [if_pos hx] at ht
      have E := Lib.hid (show signedOf k x = x - pw k by rw [signedOf_eq h]; unfold sg; rw [if_pos hx])
      go_enter Try.func98, Try.ntmps98
      go_wp2_with (first | (go_at_call 48; refine (validS_any _ _ _).mono ?_; rintro e w' ⟨rfl, rfl⟩) | (go_at_call 89; refine (l1Bit_any _ _ _ (by omega) (by omega) (by omega)).mono ?_; rintro e w' ⟨rfl, rfl⟩))
      go_ret
      exact ⟨ret_int E.out.symm, rfl⟩
    · rw [if_neg hx] at ht
      have E := Lib.hid (show signedOf k x = x by rw [signedOf_eq h]; unfold sg; rw [if_neg hx])
      go_enter Try.func98, Try.ntmps98
      go_wp2_with (first | (go_at_call 48; refine (validS_any _ _ _).mono ?_; rintro e w' ⟨rfl, rfl⟩) | (go_at_call 89; refine (l1Bit_any _ _ _ (by omega) (by omega) (by omega)).mono ?_; rintro e w' ⟨rfl, rfl⟩))
      go_ret
      exact ⟨ret_int E.out.symm, rfl⟩
  · have h : vX k x = false := by simpa using h
    have E := Lib.hid (show signedOf k x = 0 by unfold signedOf; rw [h]; rfl)
    go_enter Try.func98, Try.ntmps98
    go_wp2_with ((go_at_call 48; refine (validS_any _ _ _).mono ?_; rintro e w' ⟨rfl, rfl⟩))
    go_ret
    exact ⟨ret_int E.out.symm, rfl⟩
theorem wnotI_any (k x : Int) (w : World) :
    Calls Try.prog 41 #[.int .i64 k, .int .i64 x] w fun e w' => e = .returned (.int .i64 (wnot k x)) ∧ w = w' := by
  by_cases h : vX k x = true
  · obtain ⟨h1, h2, h3, h4, h12⟩ := vX_bd h
    have hx := xor_neg1 (n := x) (by omega) (by omega)
    have e : wnot k x = (-1 - x) % pw k := by
      rw [wnot_eq h]
      have := vX_iff.mp (vX_wnot h)
      rw [wnot_eq h] at this
      rw [← emod_small this.2.2.1 this.2.2.2]
      exact cong 1 (by omega)
    have E := Lib.hid e
    clear e
    go_enter Try.func41, Try.ntmps41
    go_wp2_with (first | (go_at_call 31; refine (validI_any _ _ _).mono ?_; rintro e w' ⟨rfl, rfl⟩) | (go_at_call 76; refine (cut_any _ _ _ (by omega) (by omega)).mono ?_; rintro e w' ⟨rfl, rfl⟩) | (go_at_call 90; go_in) | (go_at_call 91; go_in))
    go_ret
    exact ⟨ret_int E.out.symm, rfl⟩
  · have h : vX k x = false := by simpa using h
    have E := Lib.hid (show wnot k x = -1 by unfold wnot; rw [h]; rfl)
    go_enter Try.func41, Try.ntmps41
    go_wp2_with (first | (go_at_call 31; refine (validI_any _ _ _).mono ?_; rintro e w' ⟨rfl, rfl⟩) | (go_at_call 90; go_in))
    go_ret
    exact ⟨ret_int E.out.symm, rfl⟩
theorem wnotS_any (k x : Int) (w : World) :
    Calls Try.prog 96 #[.int .i64 k, .int .i64 x] w fun e w' => e = .returned (.int .i64 (wnot k x)) ∧ w = w' := by
  by_cases h : vX k x = true
  · obtain ⟨h1, h2, h3, h4, h12⟩ := vX_bd h
    have hs := shl_one (k := k) (by omega)
    have E := Lib.hid (wnot_eq h)
    go_enter Try.func96, Try.ntmps96
    go_wp2_with ((go_at_call 48; refine (validS_any _ _ _).mono ?_; rintro e w' ⟨rfl, rfl⟩))
    go_ret
    exact ⟨ret_int E.out.symm, rfl⟩
  · have h : vX k x = false := by simpa using h
    have E := Lib.hid (show wnot k x = -1 by unfold wnot; rw [h]; rfl)
    go_enter Try.func96, Try.ntmps96
    go_wp2_with ((go_at_call 48; refine (validS_any _ _ _).mono ?_; rintro e w' ⟨rfl, rfl⟩))
    go_ret
    exact ⟨ret_int E.out.symm, rfl⟩
theorem below_new1 (w : World) (a : Obj) : Below w.heap.size w (w.alloc a) := (Below.refl _ _).alloc (Nat.le_refl _) _
theorem below_new2 (w : World) (a b : Obj) : Below w.heap.size w ((w.alloc a).alloc b) := (below_new1 w a).alloc (by simp) _
theorem below_new3 (w : World) (a b c : Obj) : Below w.heap.size w (((w.alloc a).alloc b).alloc c) := (below_new2 w a b).alloc (by simp; omega) _
theorem pwk_bd {k : Int} (h : k ≤ 12) : 1 ≤ pw k ∧ pw k ≤ 4096 := ⟨pw_pos k, pw_le12 h⟩
theorem shl_bd {x k : Int} (h0 : 0 ≤ x) (h1 : x ≤ 4096) (h : k ≤ 12) : 0 ≤ x * pw k ∧ x * pw k ≤ 16777216 := by
  obtain ⟨a, b⟩ := pwk_bd h
  have h7 : x * pw k ≤ 4096 * pw k := Int.mul_le_mul_of_nonneg_right (by omega) (by omega)
  exact ⟨Int.mul_nonneg h0 (by omega), by omega⟩
theorem shl_small {x k : Int} (h0 : 0 ≤ x) (h1 : x ≤ 4096) (h : k ≤ 12) : IntKind.i64.wrap (x * 2 ^ k.toNat) = x * pw k := by
  have := shl_bd h0 h1 h
  exact shl_wrap (by omega) (by omega)
theorem shr_eq (x k : Int) : x / 2 ^ k.toNat = x / pw k := rfl

theorem wleftI_any (k x n : Int) (w : World) :
    Calls Try.prog 33 #[.int .i64 k, .int .i64 x, .int .i64 n] w fun e w' => e = .returned (.int .i64 (wleft k x n)) ∧ Below w.heap.size w w' := by
  have hv : inB n 0 12 = vB n := rfl
  by_cases h : vX k x = true
  · obtain ⟨h1, h2, h3, h4, h12⟩ := vX_bd h
    by_cases hn : vB n = true
    · obtain ⟨n0, n1⟩ := vB_iff.mp hn
      have hk := Lib.hid (vK_iff.mpr ⟨h, hn⟩)
      have hs := shl_small (x := x) (k := n) (by omega) (by omega) (by omega)
      have E := Lib.hid (wleft_eq hk.out)
      go_enter Try.func33, Try.ntmps33
      go_wp2_with (first | (go_at_call 31; refine (validI_any _ _ _).mono ?_; rintro e w' ⟨rfl, rfl⟩) | (go_at_call 81; refine (within_any _ _ _ _).mono ?_; rintro e w' ⟨rfl, rfl⟩) | (go_at_call 76; refine (cut_any _ _ _ (by omega) (by omega)).mono ?_; rintro e w' ⟨rfl, rfl⟩) | (go_at_call 78; go_in) | (go_at_call 85; go_in))
      go_ret
      exact ⟨ret_int E.out.symm, by first | exact below_new3 _ _ _ _ | exact below_new2 _ _ _ | exact below_new1 _ _ | exact below_drewN (below_new3 _ _ _ _) _ | exact Below.refl _ _⟩
    · have hn : vB n = false := by simpa using hn
      have E := Lib.hid (show wleft k x n = -1 by unfold wleft vK; rw [h, hn]; rfl)
      go_enter Try.func33, Try.ntmps33
      go_wp2_with (first | (go_at_call 31; refine (validI_any _ _ _).mono ?_; rintro e w' ⟨rfl, rfl⟩) | (go_at_call 81; refine (within_any _ _ _ _).mono ?_; rintro e w' ⟨rfl, rfl⟩) | (go_at_call 78; go_in))
      go_ret
      exact ⟨ret_int E.out.symm, by first | exact below_new3 _ _ _ _ | exact below_new2 _ _ _ | exact below_new1 _ _ | exact below_drewN (below_new3 _ _ _ _) _ | exact Below.refl _ _⟩
  · have h : vX k x = false := by simpa using h
    have E := Lib.hid (show wleft k x n = -1 by unfold wleft vK; rw [h]; rfl)
    go_enter Try.func33, Try.ntmps33
    go_wp2_with (first | (go_at_call 31; refine (validI_any _ _ _).mono ?_; rintro e w' ⟨rfl, rfl⟩) | (go_at_call 81; refine (within_any _ _ _ _).mono ?_; rintro e w' ⟨rfl, rfl⟩) | (go_at_call 78; go_in))
    go_ret
    exact ⟨ret_int E.out.symm, by first | exact below_new3 _ _ _ _ | exact below_new2 _ _ _ | exact below_new1 _ _ | exact below_drewN (below_new3 _ _ _ _) _ | exact Below.refl _ _⟩
theorem wleftS_any (k x n : Int) (w : World) :
    Calls Try.prog 34 #[.int .i64 k, .int .i64 x, .int .i64 n] w fun e w' => e = .returned (.int .i64 (wleft k x n)) ∧ w = w' := by
  have hv : inB n 0 12 = vB n := rfl
  by_cases h : vX k x = true
  · obtain ⟨h1, h2, h3, h4, h12⟩ := vX_bd h
    by_cases hn : vB n = true
    · obtain ⟨n0, n1⟩ := vB_iff.mp hn
      have hk := Lib.hid (vK_iff.mpr ⟨h, hn⟩)
      have hs := shl_small (x := x) (k := n) (by omega) (by omega) (by omega)
      have E := Lib.hid (wleft_eq hk.out)
      go_enter Try.func34, Try.ntmps34
      go_wp2_with (first | (go_at_call 48; refine (validS_any _ _ _).mono ?_; rintro e w' ⟨rfl, rfl⟩) | (go_at_call 80; refine (l1In_any _ _ _ _).mono ?_; rintro e w' ⟨rfl, rfl⟩) | (go_at_call 73; refine (l1Mod_any _ _ _ (by omega) (by omega)).mono ?_; rintro e w' ⟨rfl, rfl⟩))
      go_ret
      exact ⟨ret_int E.out.symm, rfl⟩
    · have hn : vB n = false := by simpa using hn
      have E := Lib.hid (show wleft k x n = -1 by unfold wleft vK; rw [h, hn]; rfl)
      go_enter Try.func34, Try.ntmps34
      go_wp2_with (first | (go_at_call 48; refine (validS_any _ _ _).mono ?_; rintro e w' ⟨rfl, rfl⟩) | (go_at_call 80; refine (l1In_any _ _ _ _).mono ?_; rintro e w' ⟨rfl, rfl⟩))
      go_ret
      exact ⟨ret_int E.out.symm, rfl⟩
  · have h : vX k x = false := by simpa using h
    have E := Lib.hid (show wleft k x n = -1 by unfold wleft vK; rw [h]; rfl)
    go_enter Try.func34, Try.ntmps34
    go_wp2_with (first | (go_at_call 48; refine (validS_any _ _ _).mono ?_; rintro e w' ⟨rfl, rfl⟩) | (go_at_call 80; refine (l1In_any _ _ _ _).mono ?_; rintro e w' ⟨rfl, rfl⟩))
    go_ret
    exact ⟨ret_int E.out.symm, rfl⟩
theorem wdownI_any (k x n : Int) (w : World) :
    Calls Try.prog 50 #[.int .i64 k, .int .i64 x, .int .i64 n] w fun e w' => e = .returned (.int .i64 (wdown k x n)) ∧ Below w.heap.size w w' := by
  have hv : inB n 0 12 = vB n := rfl
  by_cases h : vX k x = true
  · obtain ⟨h1, h2, h3, h4, h12⟩ := vX_bd h
    by_cases hn : vB n = true
    · obtain ⟨n0, n1⟩ := vB_iff.mp hn
      have hk := Lib.hid (vK_iff.mpr ⟨h, hn⟩)
      have hr := shr_eq (sg k x) n
      have E := Lib.hid (wdown_eq hk.out)
      go_enter Try.func50, Try.ntmps50
      go_wp2_with (first | (go_at_call 31; refine (validI_any _ _ _).mono ?_; rintro e w' ⟨rfl, rfl⟩) | (go_at_call 81; refine (within_any _ _ _ _).mono ?_; rintro e w' ⟨rfl, rfl⟩) | (go_at_call 76; refine (cut_any _ _ _ (by omega) (by omega)).mono ?_; rintro e w' ⟨rfl, rfl⟩) | (go_at_call 78; go_in) | (go_at_call 97; go_in) | (go_at_call 77; refine (signed_any _ _ _ (by assumption)).mono ?_; rintro e w' ⟨rfl, rfl⟩))
      go_quiet ((go_at_call 77; exact Calls.quiet_of_same (same_of (signed_any _ _ _ (by assumption)))))
      go_wp2_with (first | (go_at_call 31; refine (validI_any _ _ _).mono ?_; rintro e w' ⟨rfl, rfl⟩) | (go_at_call 81; refine (within_any _ _ _ _).mono ?_; rintro e w' ⟨rfl, rfl⟩) | (go_at_call 76; refine (cut_any _ _ _ (by omega) (by omega)).mono ?_; rintro e w' ⟨rfl, rfl⟩) | (go_at_call 78; go_in) | (go_at_call 97; go_in) | (go_at_call 77; refine (signed_any _ _ _ (by assumption)).mono ?_; rintro e w' ⟨rfl, rfl⟩))
      go_ret
      exact ⟨ret_int E.out.symm, by first | exact below_new3 _ _ _ _ | exact below_new2 _ _ _ | exact below_new1 _ _ | exact below_drewN (below_new3 _ _ _ _) _ | exact Below.refl _ _⟩
    · have hn : vB n = false := by simpa using hn
      have E := Lib.hid (show wdown k x n = -1 by unfold wdown vK; rw [h, hn]; rfl)
      go_enter Try.func50, Try.ntmps50
      go_wp2_with (first | (go_at_call 31; refine (validI_any _ _ _).mono ?_; rintro e w' ⟨rfl, rfl⟩) | (go_at_call 81; refine (within_any _ _ _ _).mono ?_; rintro e w' ⟨rfl, rfl⟩) | (go_at_call 78; go_in))
      go_ret
      exact ⟨ret_int E.out.symm, by first | exact below_new3 _ _ _ _ | exact below_new2 _ _ _ | exact below_new1 _ _ | exact below_drewN (below_new3 _ _ _ _) _ | exact Below.refl _ _⟩
  · have h : vX k x = false := by simpa using h
    have E := Lib.hid (show wdown k x n = -1 by unfold wdown vK; rw [h]; rfl)
    go_enter Try.func50, Try.ntmps50
    go_wp2_with (first | (go_at_call 31; refine (validI_any _ _ _).mono ?_; rintro e w' ⟨rfl, rfl⟩) | (go_at_call 81; refine (within_any _ _ _ _).mono ?_; rintro e w' ⟨rfl, rfl⟩) | (go_at_call 78; go_in))
    go_ret
    exact ⟨ret_int E.out.symm, by first | exact below_new3 _ _ _ _ | exact below_new2 _ _ _ | exact below_new1 _ _ | exact below_drewN (below_new3 _ _ _ _) _ | exact Below.refl _ _⟩
theorem wdownS_any (k x n : Int) (w : World) :
    Calls Try.prog 51 #[.int .i64 k, .int .i64 x, .int .i64 n] w fun e w' => e = .returned (.int .i64 (wdown k x n)) ∧ w = w' := by
  have hv : inB n 0 12 = vB n := rfl
  by_cases h : vX k x = true
  · obtain ⟨h1, h2, h3, h4, h12⟩ := vX_bd h
    by_cases hn : vB n = true
    · obtain ⟨n0, n1⟩ := vB_iff.mp hn
      have hk := Lib.hid (vK_iff.mpr ⟨h, hn⟩)
      have hr := shr_eq (sg k x) n
      have hso := signedOf_eq h
      have E := Lib.hid (wdown_eq hk.out)
      go_enter Try.func51, Try.ntmps51
      go_wp2_with (first | (go_at_call 48; refine (validS_any _ _ _).mono ?_; rintro e w' ⟨rfl, rfl⟩) | (go_at_call 80; refine (l1In_any _ _ _ _).mono ?_; rintro e w' ⟨rfl, rfl⟩) | (go_at_call 73; refine (l1Mod_any _ _ _ (by omega) (by omega)).mono ?_; rintro e w' ⟨rfl, rfl⟩) | (go_at_call 98; refine (signedOfS_any _ _ _).mono ?_; rintro e w' ⟨rfl, rfl⟩))
      go_ret
      exact ⟨ret_int E.out.symm, rfl⟩
    · have hn : vB n = false := by simpa using hn
      have E := Lib.hid (show wdown k x n = -1 by unfold wdown vK; rw [h, hn]; rfl)
      go_enter Try.func51, Try.ntmps51
      go_wp2_with (first | (go_at_call 48; refine (validS_any _ _ _).mono ?_; rintro e w' ⟨rfl, rfl⟩) | (go_at_call 80; refine (l1In_any _ _ _ _).mono ?_; rintro e w' ⟨rfl, rfl⟩))
      go_ret
      exact ⟨ret_int E.out.symm, rfl⟩
  · have h : vX k x = false := by simpa using h
    have E := Lib.hid (show wdown k x n = -1 by unfold wdown vK; rw [h]; rfl)
    go_enter Try.func51, Try.ntmps51
    go_wp2_with (first | (go_at_call 48; refine (validS_any _ _ _).mono ?_; rintro e w' ⟨rfl, rfl⟩) | (go_at_call 80; refine (l1In_any _ _ _ _).mono ?_; rintro e w' ⟨rfl, rfl⟩))
    go_ret
    exact ⟨ret_int E.out.symm, rfl⟩
theorem wturnI_any (k x n : Int) (w : World) :
    Calls Try.prog 29 #[.int .i64 k, .int .i64 x, .int .i64 n] w fun e w' => e = .returned (.int .i64 (wturn k x n)) ∧ Below w.heap.size w w' := by
  have hv : inB n 0 12 = vB n := rfl
  by_cases h : vX k x = true
  · obtain ⟨h1, h2, h3, h4, h12⟩ := vX_bd h
    by_cases hn : vB n = true
    · obtain ⟨n0, n1⟩ := vB_iff.mp hn
      have hk := Lib.hid (vK_iff.mpr ⟨h, hn⟩)
      have r0 : 0 ≤ n % k := Int.emod_nonneg _ (by omega)
      have r1 : n % k < k := Int.emod_lt_of_pos _ (by omega)
      have hs := shl_small (x := x) (k := n % k) (by omega) (by omega) (by omega)
      have hr := shr_eq x (k - n % k)
      have d0 := div_nonneg (x := x) (k := k - n % k) h3
      have d1 := div_le (x := x) (k := k - n % k) h3
      have d2 := shl_bd (x := x) (k := n % k) (by omega) (by omega) (by omega)
      have ho := bits_or (a := x * pw (n % k)) (b := x / pw (k - n % k)) (by omega) (by omega) (by omega) (by omega)
      have ht := vX_turn h r0 r1
      have hoo := or_disj (a := x) (b := x / pw (k - n % k)) (j := n % k) h3 d0 ht.2.2.2
      rw [hoo] at ho
      clear hoo
      have hk2 : k ≠ 0 := by omega
      have E := Lib.hid (show wturn k x n = (x * pw (n % k) + x / pw (k - n % k)) % pw k by rw [wturn_eq hk.out, ← vX_small ht.1, Int.emod_add_emod])
      go_enter Try.func29, Try.ntmps29
      go_wp2_with (first | (go_at_call 31; refine (validI_any _ _ _).mono ?_; rintro e w' ⟨rfl, rfl⟩) | (go_at_call 81; refine (within_any _ _ _ _).mono ?_; rintro e w' ⟨rfl, rfl⟩) | (go_at_call 76; refine (cut_any _ _ _ (by omega) (by omega)).mono ?_; rintro e w' ⟨rfl, rfl⟩) | (go_at_call 78; go_in) | (go_at_call 79; go_in))
      go_quiet (fail)
      go_wp2_with (first | (go_at_call 31; refine (validI_any _ _ _).mono ?_; rintro e w' ⟨rfl, rfl⟩) | (go_at_call 81; refine (within_any _ _ _ _).mono ?_; rintro e w' ⟨rfl, rfl⟩) | (go_at_call 76; refine (cut_any _ _ _ (by omega) (by omega)).mono ?_; rintro e w' ⟨rfl, rfl⟩) | (go_at_call 78; go_in) | (go_at_call 79; go_in))
      go_ret
      exact ⟨ret_int E.out.symm, by first | exact below_new3 _ _ _ _ | exact below_new2 _ _ _ | exact below_new1 _ _ | exact below_drewN (below_new3 _ _ _ _) _ | exact Below.refl _ _⟩
    · have hn : vB n = false := by simpa using hn
      have E := Lib.hid (show wturn k x n = -1 by unfold wturn vK; rw [h, hn]; rfl)
      go_enter Try.func29, Try.ntmps29
      go_wp2_with (first | (go_at_call 31; refine (validI_any _ _ _).mono ?_; rintro e w' ⟨rfl, rfl⟩) | (go_at_call 81; refine (within_any _ _ _ _).mono ?_; rintro e w' ⟨rfl, rfl⟩) | (go_at_call 78; go_in))
      go_ret
      exact ⟨ret_int E.out.symm, by first | exact below_new3 _ _ _ _ | exact below_new2 _ _ _ | exact below_new1 _ _ | exact below_drewN (below_new3 _ _ _ _) _ | exact Below.refl _ _⟩
  · have h : vX k x = false := by simpa using h
    have E := Lib.hid (show wturn k x n = -1 by unfold wturn vK; rw [h]; rfl)
    go_enter Try.func29, Try.ntmps29
    go_wp2_with (first | (go_at_call 31; refine (validI_any _ _ _).mono ?_; rintro e w' ⟨rfl, rfl⟩) | (go_at_call 81; refine (within_any _ _ _ _).mono ?_; rintro e w' ⟨rfl, rfl⟩) | (go_at_call 78; go_in))
    go_ret
    exact ⟨ret_int E.out.symm, by first | exact below_new3 _ _ _ _ | exact below_new2 _ _ _ | exact below_new1 _ _ | exact below_drewN (below_new3 _ _ _ _) _ | exact Below.refl _ _⟩
theorem wturnS_any (k x n : Int) (w : World) :
    Calls Try.prog 30 #[.int .i64 k, .int .i64 x, .int .i64 n] w fun e w' => e = .returned (.int .i64 (wturn k x n)) ∧ Below w.heap.size w w' := by
  have hv : inB n 0 12 = vB n := rfl
  by_cases h : vX k x = true
  · obtain ⟨h1, h2, h3, h4, h12⟩ := vX_bd h
    by_cases hn : vB n = true
    · obtain ⟨n0, n1⟩ := vB_iff.mp hn
      have hk := Lib.hid (vK_iff.mpr ⟨h, hn⟩)
      have r0 : 0 ≤ n % k := Int.emod_nonneg _ (by omega)
      have r1 : n % k < k := Int.emod_lt_of_pos _ (by omega)
      have hs := shl_small (x := x) (k := n % k) (by omega) (by omega) (by omega)
      have hr := shr_eq x (k - n % k)
      have d0 := div_nonneg (x := x) (k := k - n % k) h3
      have d1 := div_le (x := x) (k := k - n % k) h3
      have d2 := shl_bd (x := x) (k := n % k) (by omega) (by omega) (by omega)
      have m0 := Int.emod_nonneg (x * pw (n % k)) (b := pw k) (by omega)
      have m1 := Int.emod_lt_of_pos (x * pw (n % k)) (b := pw k) (by omega)
      have E := Lib.hid (wturn_eq hk.out)
      go_enter Try.func30, Try.ntmps30
      go_wp2_with (first | (go_at_call 48; refine (validS_any _ _ _).mono ?_; rintro e w' ⟨rfl, rfl⟩) | (go_at_call 80; refine (l1In_any _ _ _ _).mono ?_; rintro e w' ⟨rfl, rfl⟩) | (go_at_call 73; refine (l1Mod_any _ _ _ (by omega) (by omega)).mono ?_; rintro e w' ⟨rfl, rfl⟩))
      go_quiet ((go_at_call 73; exact Calls.quiet_of_same (same_of (l1Mod_any _ _ _ (by omega) (by omega)))))
      go_wp2_with (first | (go_at_call 48; refine (validS_any _ _ _).mono ?_; rintro e w' ⟨rfl, rfl⟩) | (go_at_call 80; refine (l1In_any _ _ _ _).mono ?_; rintro e w' ⟨rfl, rfl⟩) | (go_at_call 73; refine (l1Mod_any _ _ _ (by omega) (by omega)).mono ?_; rintro e w' ⟨rfl, rfl⟩))
      go_ret
      exact ⟨ret_int E.out.symm, by first | exact Below.refl _ _ | exact (below_drewN (Below.refl _ _) _)⟩
    · have hn : vB n = false := by simpa using hn
      have E := Lib.hid (show wturn k x n = -1 by unfold wturn vK; rw [h, hn]; rfl)
      go_enter Try.func30, Try.ntmps30
      go_wp2_with (first | (go_at_call 48; refine (validS_any _ _ _).mono ?_; rintro e w' ⟨rfl, rfl⟩) | (go_at_call 80; refine (l1In_any _ _ _ _).mono ?_; rintro e w' ⟨rfl, rfl⟩))
      go_ret
      exact ⟨ret_int E.out.symm, by first | exact Below.refl _ _ | exact (below_drewN (Below.refl _ _) _)⟩
  · have h : vX k x = false := by simpa using h
    have E := Lib.hid (show wturn k x n = -1 by unfold wturn vK; rw [h]; rfl)
    go_enter Try.func30, Try.ntmps30
    go_wp2_with (first | (go_at_call 48; refine (validS_any _ _ _).mono ?_; rintro e w' ⟨rfl, rfl⟩) | (go_at_call 80; refine (l1In_any _ _ _ _).mono ?_; rintro e w' ⟨rfl, rfl⟩))
    go_ret
    exact ⟨ret_int E.out.symm, by first | exact Below.refl _ _ | exact (below_drewN (Below.refl _ _) _)⟩
end Go.Proofs.Ytnlbomenmnbfpaa