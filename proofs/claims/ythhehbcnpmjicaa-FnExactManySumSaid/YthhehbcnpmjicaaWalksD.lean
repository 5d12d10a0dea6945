/-
  THE WALKS OF SIGNS AND SUMS, the program's and the reference's: each answers plain functions of its arguments; no condition.
-/
import Derived.Test.YthhehbcnpmjicaaWalksC
namespace Go.Proofs.Ythhehbcnpmjicaa
open Go Go.RowKit Bw
set_option linter.unusedVariables false
theorem beq_dec (a b : Int) : (a == b) = decide (a = b) := by by_cases h : a = b <;> simp [h]

theorem highI_any (k a b : Int) (w : World) :
    Calls Try.prog 16 #[.int .i64 k, .int .i64 a, .int .i64 b] w fun e w' => e = .returned (.int .i64 (highS k a b)) ∧ Below w.heap.size w w' := by
  by_cases h : v2 k a b = true
  · obtain ⟨h1, h2, h3, h4, h5, h6, h12⟩ := v2_bd h
    obtain ⟨ha, hb⟩ := v2_iff.mp h
    have hm := sprod_bd ha hb
    have e1 := IntWalk.i64_in (sg k a * sg k b) (by omega)
    have hr := shr_eq (sg k a * sg k b) k
    have E := Lib.hid (show highS k a b = (sg k a * sg k b / pw k) % pw k by unfold highS; rw [h]; rfl)
    go_enter Try.func16, Try.ntmps16
    go_wp2_with (first | (go_at_call 56; refine (allValid2_any _ _ _ _ _ (by first | rfl | simp)).mono ?_; rintro e w' ⟨rfl, rfl⟩) | (go_at_call 57; refine (cut_any _ _ _ (by omega) (by omega)).mono ?_; rintro e w' ⟨rfl, rfl⟩) | (go_at_call 49; go_in) | (go_at_call 50; go_in))
    go_quiet ((go_at_call 51; first | exact quiet_1 (signed_any _ _ _ (by assumption)) | exact quiet_2 (signed_any _ _ _ (by assumption))))
    go_wp2_with ((go_at_call 57; refine (cut_any _ _ _ (by omega) (by omega)).mono ?_; rintro e w' ⟨rfl, rfl⟩))
    go_ret
    exact ⟨ret_int E.out.symm, by first | exact below_drewN (below_new2 _ _ _) _ | exact below_drewN (below_new3 _ _ _ _) _⟩
  · have h : v2 k a b = false := by simpa using h
    have E := Lib.hid (show highS k a b = -1 by unfold highS; rw [h]; rfl)
    go_enter Try.func16, Try.ntmps16
    go_wp2_with (first | (go_at_call 56; refine (allValid2_any _ _ _ _ _ (by first | rfl | simp)).mono ?_; rintro e w' ⟨rfl, rfl⟩) | (go_at_call 49; go_in))
    go_ret
    exact ⟨ret_int E.out.symm, by first | exact below_new2 _ _ _ | exact below_new1 _ _⟩
theorem highS_any (k a b : Int) (w : World) :
    Calls Try.prog 15 #[.int .i64 k, .int .i64 a, .int .i64 b] w fun e w' => e = .returned (.int .i64 (highS k a b)) ∧ w = w' := by
  by_cases h : v2 k a b = true
  · obtain ⟨h1, h2, h3, h4, h5, h6, h12⟩ := v2_bd h
    obtain ⟨ha, hb⟩ := v2_iff.mp h
    have hm := sprod_bd ha hb
    have e1 := IntWalk.i64_in (sg k a * sg k b) (by omega)
    have hr := shr_eq (sg k a * sg k b) k
    have sa := signedOf_eq ha
    have sb := signedOf_eq hb
    have E := Lib.hid (show highS k a b = (sg k a * sg k b / pw k) % pw k by unfold highS; rw [h]; rfl)
    go_enter Try.func15, Try.ntmps15
    go_wp2_with (first | (go_at_call 46; refine (both_any _ _ _ _).mono ?_; rintro e w' ⟨rfl, rfl⟩) | (go_at_call 48; refine (signedOfS_any _ _ _).mono ?_; rintro e w' ⟨rfl, rfl⟩) | (go_at_call 47; refine (l1Mod_any _ _ _ (by omega) (by omega)).mono ?_; rintro e w' ⟨rfl, rfl⟩))
    go_ret
    exact ⟨ret_int E.out.symm, rfl⟩
  · have h : v2 k a b = false := by simpa using h
    have E := Lib.hid (show highS k a b = -1 by unfold highS; rw [h]; rfl)
    go_enter Try.func15, Try.ntmps15
    go_wp2_with ((go_at_call 46; refine (both_any _ _ _ _).mono ?_; rintro e w' ⟨rfl, rfl⟩))
    go_ret
    exact ⟨ret_int E.out.symm, rfl⟩
end Go.Proofs.Ythhehbcnpmjicaa