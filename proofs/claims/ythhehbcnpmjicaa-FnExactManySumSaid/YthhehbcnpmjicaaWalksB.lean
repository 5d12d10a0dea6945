/-
  THE WALKS OF THE WORDS' FUNCTIONS, 2: words of numbers, signs, moved bits. Each answers one plain function of its arguments; no condition.
-/
import Derived.Test.YthhehbcnpmjicaaWalks
namespace Go.Proofs.Ythhehbcnpmjicaa
open Go Go.RowKit Bw
set_option linter.unusedVariables false

theorem signedOfS_any (k x : Int) (w : World) :
    Calls Try.prog 48 #[.int .i64 k, .int .i64 x] w fun e w' => e = .returned (.int .i64 (signedOf k x)) ∧ w = w' := by
  by_cases h : vX k x = true
  · obtain ⟨h1, h2, h3, h4, h12⟩ := vX_bd h
    have hs := shl_one (k := k) (by omega)
    have ht := bt_top h1 h3 h4
    by_cases hx : pw (k - 1) ≤ x
    · rw [if_pos hx] at ht
      have E := Lib.hid (show signedOf k x = x - pw k by rw [signedOf_eq h]; unfold sg; rw [if_pos hx])
      go_enter Try.func48, Try.ntmps48
      go_wp2_with (first | (go_at_call 52; refine (validS_any _ _ _).mono ?_; rintro e w' ⟨rfl, rfl⟩) | (go_at_call 58; refine (l1Bit_any _ _ _ (by omega) (by omega) (by omega)).mono ?_; rintro e w' ⟨rfl, rfl⟩))
      go_ret
      exact ⟨ret_int E.out.symm, rfl⟩
    · rw [if_neg hx] at ht
      have E := Lib.hid (show signedOf k x = x by rw [signedOf_eq h]; unfold sg; rw [if_neg hx])
      go_enter Try.func48, Try.ntmps48
      go_wp2_with (first | (go_at_call 52; refine (validS_any _ _ _).mono ?_; rintro e w' ⟨rfl, rfl⟩) | (go_at_call 58; refine (l1Bit_any _ _ _ (by omega) (by omega) (by omega)).mono ?_; rintro e w' ⟨rfl, rfl⟩))
      go_ret
      exact ⟨ret_int E.out.symm, rfl⟩
  · have h : vX k x = false := by simpa using h
    have E := Lib.hid (show signedOf k x = 0 by unfold signedOf; rw [h]; rfl)
    go_enter Try.func48, Try.ntmps48
    go_wp2_with ((go_at_call 52; refine (validS_any _ _ _).mono ?_; rintro e w' ⟨rfl, rfl⟩))
    go_ret
    exact ⟨ret_int E.out.symm, rfl⟩
theorem below_new1 (w : World) (a : Obj) : Below w.heap.size w (w.alloc a) := (Below.refl _ _).alloc (Nat.le_refl _) _
theorem below_new2 (w : World) (a b : Obj) : Below w.heap.size w ((w.alloc a).alloc b) := (below_new1 w a).alloc (by simp) _
theorem below_new3 (w : World) (a b c : Obj) : Below w.heap.size w (((w.alloc a).alloc b).alloc c) := (below_new2 w a b).alloc (by simp; omega) _
theorem pwk_bd {k : Int} (h : k ≤ 12) : 1 ≤ pw k ∧ pw k ≤ 4096 := ⟨pw_pos k, pw_le12 h⟩
theorem shl_bd {x k : Int} (h0 : 0 ≤ x) (h1 : x ≤ 4096) (h : k ≤ 12) : 0 ≤ x * pw k ∧ x * pw k ≤ 16777216 := by
  obtain ⟨a, b⟩ := pwk_bd h
  have h7 : x * pw k ≤ 4096 * pw k := Int.mul_le_mul_of_nonneg_right (by omega) (by omega)
  exact ⟨Int.mul_nonneg h0 (by omega), by omega⟩
theorem shl_small {x k : Int} (h0 : 0 ≤ x) (h1 : x ≤ 4096) (h : k ≤ 12) : IntKind.i64.wrap (x * 2 ^ k.toNat) = x * pw k := by
  have := shl_bd h0 h1 h
  exact shl_wrap (by omega) (by omega)
theorem shr_eq (x k : Int) : x / 2 ^ k.toNat = x / pw k := rfl

end Go.Proofs.Ythhehbcnpmjicaa