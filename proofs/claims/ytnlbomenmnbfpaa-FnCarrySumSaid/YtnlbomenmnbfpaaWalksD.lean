/-
  THE WALKS OF SIGNS AND SUMS, the program's and the reference's: each answers plain functions of its arguments; no condition.
-/
import Derived.Test.YtnlbomenmnbfpaaWalksC
namespace Go.Proofs.Ytnlbomenmnbfpaa
open Go Go.RowKit Bw
set_option linter.unusedVariables false
theorem beq_dec (a b : Int) : (a == b) = decide (a = b) := by by_cases h : a = b <;> simp [h]

theorem fitsI_any (k a b : Int) (w : World) :
    Calls Try.prog 53 #[.int .i64 k, .int .i64 a, .int .i64 b] w fun e w' => e = .returned (.bool (fits k a b)) ∧ Below w.heap.size w w' := by
  by_cases h : v2 k a b = true
  · obtain ⟨h1, h2, h3, h4, h5, h6, h12⟩ := v2_bd h
    obtain ⟨ha, hb⟩ := v2_iff.mp h
    have hab := vX_mod (vX_vW ha) (a + b)
    have ba := sg_bd12 ha
    have bb := sg_bd12 hb
    have E := Lib.hid (show fits k a b = (sg k ((a + b) % pw k) == sg k a + sg k b) by unfold fits; rw [h, beq_dec]; rfl)
    go_enter Try.func53, Try.ntmps53
    go_wp2_with (first | (go_at_call 87; refine (allValid2_any _ _ _ _ _ (by first | rfl | simp)).mono ?_; rintro e w' ⟨rfl, rfl⟩) | (go_at_call 76; refine (cut_any _ _ _ (by omega) (by omega)).mono ?_; rintro e w' ⟨rfl, rfl⟩) | (go_at_call 77; refine (signed_any _ _ _ (by assumption)).mono ?_; rintro e w' ⟨rfl, rfl⟩))
    go_ret
    exact ⟨ret_bool E.out.symm, below_new1 _ _⟩
  · have h : v2 k a b = false := by simpa using h
    have E := Lib.hid (show fits k a b = false by unfold fits; rw [h]; rfl)
    go_enter Try.func53, Try.ntmps53
    go_wp2_with ((go_at_call 87; refine (allValid2_any _ _ _ _ _ (by first | rfl | simp)).mono ?_; rintro e w' ⟨rfl, rfl⟩))
    go_ret
    exact ⟨ret_bool E.out.symm, below_new1 _ _⟩
theorem fitsS_any (k a b : Int) (w : World) :
    Calls Try.prog 54 #[.int .i64 k, .int .i64 a, .int .i64 b] w fun e w' => e = .returned (.bool (fits k a b)) ∧ w = w' := by
  by_cases h : v2 k a b = true
  · obtain ⟨h1, h2, h3, h4, h5, h6, h12⟩ := v2_bd h
    obtain ⟨ha, hb⟩ := v2_iff.mp h
    have hab := vX_mod (vX_vW ha) (a + b)
    have ba := sg_bd12 ha
    have bb := sg_bd12 hb
    have sa := signedOf_eq ha
    have sb := signedOf_eq hb
    have sc := signedOf_eq hab
    have we := wadd_eq h
    have E := Lib.hid (show fits k a b = (sg k ((a + b) % pw k) == sg k a + sg k b) by unfold fits; rw [h, beq_dec]; rfl)
    go_enter Try.func54, Try.ntmps54
    go_wp2_with (first | (go_at_call 68; refine (both_any _ _ _ _).mono ?_; rintro e w' ⟨rfl, rfl⟩) | (go_at_call 99; refine (waddS_any _ _ _ _).mono ?_; rintro e w' ⟨rfl, rfl⟩) | (go_at_call 98; refine (signedOfS_any _ _ _).mono ?_; rintro e w' ⟨rfl, rfl⟩))
    go_ret
    exact ⟨ret_bool E.out.symm, rfl⟩
  · have h : v2 k a b = false := by simpa using h
    have E := Lib.hid (show fits k a b = false by unfold fits; rw [h]; rfl)
    go_enter Try.func54, Try.ntmps54
    go_wp2_with ((go_at_call 68; refine (both_any _ _ _ _).mono ?_; rintro e w' ⟨rfl, rfl⟩))
    go_ret
    exact ⟨ret_bool E.out.symm, rfl⟩
theorem lessSI_any (k a b : Int) (w : World) :
    Calls Try.prog 60 #[.int .i64 k, .int .i64 a, .int .i64 b] w fun e w' => e = .returned (.bool (lessS k a b)) ∧ Below w.heap.size w w' := by
  by_cases h : v2 k a b = true
  · obtain ⟨ha, hb⟩ := v2_iff.mp h
    have E := Lib.hid (show lessS k a b = decide (sg k a < sg k b) by unfold lessS; rw [h]; rfl)
    go_enter Try.func60, Try.ntmps60
    go_wp2_with (first | (go_at_call 87; refine (allValid2_any _ _ _ _ _ (by first | rfl | simp)).mono ?_; rintro e w' ⟨rfl, rfl⟩) | (go_at_call 77; refine (signed_any _ _ _ (by assumption)).mono ?_; rintro e w' ⟨rfl, rfl⟩))
    go_ret
    exact ⟨ret_bool E.out.symm, below_new1 _ _⟩
  · have h : v2 k a b = false := by simpa using h
    have E := Lib.hid (show lessS k a b = false by unfold lessS; rw [h]; rfl)
    go_enter Try.func60, Try.ntmps60
    go_wp2_with ((go_at_call 87; refine (allValid2_any _ _ _ _ _ (by first | rfl | simp)).mono ?_; rintro e w' ⟨rfl, rfl⟩))
    go_ret
    exact ⟨ret_bool E.out.symm, below_new1 _ _⟩
theorem lessSS_any (k a b : Int) (w : World) :
    Calls Try.prog 61 #[.int .i64 k, .int .i64 a, .int .i64 b] w fun e w' => e = .returned (.bool (lessS k a b)) ∧ w = w' := by
  by_cases h : v2 k a b = true
  · obtain ⟨h1, h2, h3, h4, h5, h6, h12⟩ := v2_bd h
    obtain ⟨ha, hb⟩ := v2_iff.mp h
    have hn := (vX_iff.mp (vX_mod (vX_vW ha) (a - b))).2.2.1
    have we := wsub_eq h
    have ht := lessS_top h
    by_cases hc : bt a (k - 1) = bt b (k - 1)
    · have c1 : (bt a (k - 1) != bt b (k - 1)) = false := by simpa using hc
      have E := Lib.hid (show lessS k a b = (bt ((a - b) % pw k) (k - 1) == 1) by rw [ht, beq_dec]; simp [hc])
      clear ht hc
      go_enter Try.func61, Try.ntmps61
      go_wp2_with (first | (go_at_call 68; refine (both_any _ _ _ _).mono ?_; rintro e w' ⟨rfl, rfl⟩) | (go_at_call 89; refine (l1Bit_any _ _ _ (by omega) (by omega) (by omega)).mono ?_; rintro e w' ⟨rfl, rfl⟩) | (go_at_call 101; refine (wsubS_any _ _ _ _).mono ?_; rintro e w' ⟨rfl, rfl⟩))
      go_ret
      exact ⟨ret_bool E.out.symm, rfl⟩
    · have c1 : (bt a (k - 1) != bt b (k - 1)) = true := by simpa using hc
      have E := Lib.hid (show lessS k a b = (bt a (k - 1) == 1) by rw [ht, beq_dec]; simp [hc])
      clear ht hc
      go_enter Try.func61, Try.ntmps61
      go_wp2_with (first | (go_at_call 68; refine (both_any _ _ _ _).mono ?_; rintro e w' ⟨rfl, rfl⟩) | (go_at_call 89; refine (l1Bit_any _ _ _ (by omega) (by omega) (by omega)).mono ?_; rintro e w' ⟨rfl, rfl⟩) | (go_at_call 101; refine (wsubS_any _ _ _ _).mono ?_; rintro e w' ⟨rfl, rfl⟩))
      go_ret
      exact ⟨ret_bool E.out.symm, rfl⟩
  · have h : v2 k a b = false := by simpa using h
    have E := Lib.hid (show lessS k a b = false by unfold lessS; rw [h]; rfl)
    go_enter Try.func61, Try.ntmps61
    go_wp2_with ((go_at_call 68; refine (both_any _ _ _ _).mono ?_; rintro e w' ⟨rfl, rfl⟩))
    go_ret
    exact ⟨ret_bool E.out.symm, rfl⟩
end Go.Proofs.Ytnlbomenmnbfpaa