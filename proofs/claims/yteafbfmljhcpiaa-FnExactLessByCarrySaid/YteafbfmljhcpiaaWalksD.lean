/-
  THE WALKS OF SIGNS AND SUMS, the program's and the reference's: each answers plain functions of its arguments; no condition.
-/
import Derived.Test.YteafbfmljhcpiaaWalksC
namespace Go.Proofs.Yteafbfmljhcpiaa
open Go Go.RowKit Bw
set_option linter.unusedVariables false
theorem beq_dec (a b : Int) : (a == b) = decide (a = b) := by by_cases h : a = b <;> simp [h]

theorem fitsI_any (k a b : Int) (w : World) :
    Calls Try.prog 34 #[.int .i64 k, .int .i64 a, .int .i64 b] w fun e w' => e = .returned (.bool (fits k a b)) ∧ Below w.heap.size w w' := by
  by_cases h : v2 k a b = true
  · obtain ⟨h1, h2, h3, h4, h5, h6, h12⟩ := v2_bd h
    obtain ⟨ha, hb⟩ := v2_iff.mp h
    have hab := vX_mod (vX_vW ha) (a + b)
    have ba := sg_bd12 ha
    have bb := sg_bd12 hb
    have E := Lib.hid (show fits k a b = (sg k ((a + b) % pw k) == sg k a + sg k b) by unfold fits; rw [h, beq_dec]; rfl)
    go_enter Try.func34, Try.ntmps34
    go_wp2_with (first | (go_at_call 41; refine (allValid2_any _ _ _ _ _ (by first | rfl | simp)).mono ?_; rintro e w' ⟨rfl, rfl⟩) | (go_at_call 60; refine (cut_any _ _ _ (by omega) (by omega)).mono ?_; rintro e w' ⟨rfl, rfl⟩) | (go_at_call 54; refine (signed_any _ _ _ (by assumption)).mono ?_; rintro e w' ⟨rfl, rfl⟩))
    go_ret
    exact ⟨ret_bool E.out.symm, below_new1 _ _⟩
  · have h : v2 k a b = false := by simpa using h
    have E := Lib.hid (show fits k a b = false by unfold fits; rw [h]; rfl)
    go_enter Try.func34, Try.ntmps34
    go_wp2_with ((go_at_call 41; refine (allValid2_any _ _ _ _ _ (by first | rfl | simp)).mono ?_; rintro e w' ⟨rfl, rfl⟩))
    go_ret
    exact ⟨ret_bool E.out.symm, below_new1 _ _⟩
theorem fitsS_any (k a b : Int) (w : World) :
    Calls Try.prog 33 #[.int .i64 k, .int .i64 a, .int .i64 b] w fun e w' => e = .returned (.bool (fits k a b)) ∧ w = w' := by
  by_cases h : v2 k a b = true
  · obtain ⟨h1, h2, h3, h4, h5, h6, h12⟩ := v2_bd h
    obtain ⟨ha, hb⟩ := v2_iff.mp h
    have hab := vX_mod (vX_vW ha) (a + b)
    have ba := sg_bd12 ha
    have bb := sg_bd12 hb
    have sa := signedOf_eq ha
    have sb := signedOf_eq hb
    have sc := signedOf_eq hab
    have we := wadd_eq h
    have E := Lib.hid (show fits k a b = (sg k ((a + b) % pw k) == sg k a + sg k b) by unfold fits; rw [h, beq_dec]; rfl)
    go_enter Try.func33, Try.ntmps33
    go_wp2_with (first | (go_at_call 39; refine (both_any _ _ _ _).mono ?_; rintro e w' ⟨rfl, rfl⟩) | (go_at_call 17; refine (waddS_any _ _ _ _).mono ?_; rintro e w' ⟨rfl, rfl⟩) | (go_at_call 51; refine (signedOfS_any _ _ _).mono ?_; rintro e w' ⟨rfl, rfl⟩))
    go_ret
    exact ⟨ret_bool E.out.symm, rfl⟩
  · have h : v2 k a b = false := by simpa using h
    have E := Lib.hid (show fits k a b = false by unfold fits; rw [h]; rfl)
    go_enter Try.func33, Try.ntmps33
    go_wp2_with ((go_at_call 39; refine (both_any _ _ _ _).mono ?_; rintro e w' ⟨rfl, rfl⟩))
    go_ret
    exact ⟨ret_bool E.out.symm, rfl⟩
theorem lessSI_any (k a b : Int) (w : World) :
    Calls Try.prog 32 #[.int .i64 k, .int .i64 a, .int .i64 b] w fun e w' => e = .returned (.bool (lessS k a b)) ∧ Below w.heap.size w w' := by
  by_cases h : v2 k a b = true
  · obtain ⟨ha, hb⟩ := v2_iff.mp h
    have E := Lib.hid (show lessS k a b = decide (sg k a < sg k b) by unfold lessS; rw [h]; rfl)
    go_enter Try.func32, Try.ntmps32
    go_wp2_with (first | (go_at_call 41; refine (allValid2_any _ _ _ _ _ (by first | rfl | simp)).mono ?_; rintro e w' ⟨rfl, rfl⟩) | (go_at_call 54; refine (signed_any _ _ _ (by assumption)).mono ?_; rintro e w' ⟨rfl, rfl⟩))
    go_ret
    exact ⟨ret_bool E.out.symm, below_new1 _ _⟩
  · have h : v2 k a b = false := by simpa using h
    have E := Lib.hid (show lessS k a b = false by unfold lessS; rw [h]; rfl)
    go_enter Try.func32, Try.ntmps32
    go_wp2_with ((go_at_call 41; refine (allValid2_any _ _ _ _ _ (by first | rfl | simp)).mono ?_; rintro e w' ⟨rfl, rfl⟩))
    go_ret
    exact ⟨ret_bool E.out.symm, below_new1 _ _⟩
theorem lessSS_any (k a b : Int) (w : World) :
    Calls Try.prog 31 #[.int .i64 k, .int .i64 a, .int .i64 b] w fun e w' => e = .returned (.bool (lessS k a b)) ∧ w = w' := by
  by_cases h : v2 k a b = true
  · obtain ⟨h1, h2, h3, h4, h5, h6, h12⟩ := v2_bd h
    obtain ⟨ha, hb⟩ := v2_iff.mp h
    have hn := (vX_iff.mp (vX_mod (vX_vW ha) (a - b))).2.2.1
    have we := wsub_eq h
    have ht := lessS_top h
    by_cases hc : bt a (k - 1) = bt b (k - 1)
    · have c1 : (bt a (k - 1) != bt b (k - 1)) = false := by simpa using hc
      have E := Lib.hid (show lessS k a b = (bt ((a - b) % pw k) (k - 1) == 1) by rw [ht, beq_dec]; simp [hc])
      clear ht hc
      go_enter Try.func31, Try.ntmps31
      go_wp2_with (first | (go_at_call 39; refine (both_any _ _ _ _).mono ?_; rintro e w' ⟨rfl, rfl⟩) | (go_at_call 59; refine (l1Bit_any _ _ _ (by omega) (by omega) (by omega)).mono ?_; rintro e w' ⟨rfl, rfl⟩) | (go_at_call 19; refine (wsubS_any _ _ _ _).mono ?_; rintro e w' ⟨rfl, rfl⟩))
      go_ret
      exact ⟨ret_bool E.out.symm, rfl⟩
    · have c1 : (bt a (k - 1) != bt b (k - 1)) = true := by simpa using hc
      have E := Lib.hid (show lessS k a b = (bt a (k - 1) == 1) by rw [ht, beq_dec]; simp [hc])
      clear ht hc
      go_enter Try.func31, Try.ntmps31
      go_wp2_with (first | (go_at_call 39; refine (both_any _ _ _ _).mono ?_; rintro e w' ⟨rfl, rfl⟩) | (go_at_call 59; refine (l1Bit_any _ _ _ (by omega) (by omega) (by omega)).mono ?_; rintro e w' ⟨rfl, rfl⟩) | (go_at_call 19; refine (wsubS_any _ _ _ _).mono ?_; rintro e w' ⟨rfl, rfl⟩))
      go_ret
      exact ⟨ret_bool E.out.symm, rfl⟩
  · have h : v2 k a b = false := by simpa using h
    have E := Lib.hid (show lessS k a b = false by unfold lessS; rw [h]; rfl)
    go_enter Try.func31, Try.ntmps31
    go_wp2_with ((go_at_call 39; refine (both_any _ _ _ _).mono ?_; rintro e w' ⟨rfl, rfl⟩))
    go_ret
    exact ⟨ret_bool E.out.symm, rfl⟩
theorem quoSI_any (k a b : Int) (w : World) :
    Calls Try.prog 38 #[.int .i64 k, .int .i64 a, .int .i64 b] w fun e w' => e = .returned (.tuple #[.int .i64 (quoS k a b), .int .i64 (remS k a b), .bool (vD k a b)]) ∧ Below w.heap.size w w' := by
  by_cases h : v2 k a b = true
  · obtain ⟨h1, h2, h3, h4, h5, h6, h12⟩ := v2_bd h
    by_cases h0 : b = 0
    · subst h0
      have E1 := Lib.hid (show quoS k a 0 = -1 by unfold quoS vD; simp)
      have E2 := Lib.hid (show remS k a 0 = -1 by unfold remS vD; simp)
      have E3 := Lib.hid (show vD k a 0 = false by unfold vD; simp)
      go_enter Try.func38, Try.ntmps38
      go_wp2_with ((go_at_call 41; refine (allValid2_any _ _ _ _ _ (by first | rfl | simp)).mono ?_; rintro e w' ⟨rfl, rfl⟩))
      go_ret3
      exact ⟨ret_tup E1.out.symm E2.out.symm E3.out.symm, below_new1 _ _⟩
    · obtain ⟨ha, hb⟩ := v2_iff.mp h
      have hd := Lib.hid (vD_iff.mpr ⟨h, h0⟩)
      have hne := sg_ne hb h0
      have ba := sg_bd12 ha
      have hq := tdiv_bd (n := sg k a) (m := sg k b) (by omega)
      have e1 := IntWalk.i64_in ((sg k a).tdiv (sg k b)) (by omega)
      have hne' : (sg k b == 0) = false := by simpa using hne
      have h0' : (b == 0) = false := by simpa using h0
      have E1 := Lib.hid (show quoS k a b = (sg k a).tdiv (sg k b) % pw k by unfold quoS; rw [hd.out]; rfl)
      have E2 := Lib.hid (show remS k a b = (sg k a).tmod (sg k b) % pw k by unfold remS; rw [hd.out]; rfl)
      go_enter Try.func38, Try.ntmps38
      go_wp2_with (first | (go_at_call 41; refine (allValid2_any _ _ _ _ _ (by first | rfl | simp)).mono ?_; rintro e w' ⟨rfl, rfl⟩) | (go_at_call 54; refine (signed_any _ _ _ (by assumption)).mono ?_; rintro e w' ⟨rfl, rfl⟩))
      go_quiet ((go_at_call 60; first | exact quiet_1 (cut_any _ _ _ (by omega) (by omega)) | exact quiet_2 (cut_any _ _ _ (by omega) (by omega))))
      go_wp2_with fail
      go_ret3
      exact ⟨ret_tup E1.out.symm E2.out.symm hd.out.symm, by first | exact below_drewN (below_drewN (below_new1 _ _) _) _ | exact below_drewN (below_new1 _ _) _⟩
  · have h : v2 k a b = false := by simpa using h
    have E1 := Lib.hid (show quoS k a b = -1 by unfold quoS vD; rw [h]; rfl)
    have E2 := Lib.hid (show remS k a b = -1 by unfold remS vD; rw [h]; rfl)
    have E3 := Lib.hid (show vD k a b = false by unfold vD; rw [h]; rfl)
    go_enter Try.func38, Try.ntmps38
    go_wp2_with ((go_at_call 41; refine (allValid2_any _ _ _ _ _ (by first | rfl | simp)).mono ?_; rintro e w' ⟨rfl, rfl⟩))
    go_ret3
    exact ⟨ret_tup E1.out.symm E2.out.symm E3.out.symm, below_new1 _ _⟩
theorem quoSS_any (k a b : Int) (w : World) :
    Calls Try.prog 37 #[.int .i64 k, .int .i64 a, .int .i64 b] w fun e w' => e = .returned (.tuple #[.int .i64 (quoS k a b), .int .i64 (remS k a b), .bool (vD k a b)]) ∧ Below w.heap.size w w' := by
  by_cases h : v2 k a b = true
  · obtain ⟨h1, h2, h3, h4, h5, h6, h12⟩ := v2_bd h
    by_cases h0 : b = 0
    · subst h0
      have E1 := Lib.hid (show quoS k a 0 = -1 by unfold quoS vD; simp)
      have E2 := Lib.hid (show remS k a 0 = -1 by unfold remS vD; simp)
      have E3 := Lib.hid (show vD k a 0 = false by unfold vD; simp)
      go_enter Try.func37, Try.ntmps37
      go_wp2_with ((go_at_call 39; refine (both_any _ _ _ _).mono ?_; rintro e w' ⟨rfl, rfl⟩))
      go_ret3
      exact ⟨ret_tup E1.out.symm E2.out.symm E3.out.symm, Below.refl _ _⟩
    · obtain ⟨ha, hb⟩ := v2_iff.mp h
      have hd := Lib.hid (vD_iff.mpr ⟨h, h0⟩)
      have hne := sg_ne hb h0
      have ba := sg_bd12 ha
      have hq := tdiv_bd (n := sg k a) (m := sg k b) (by omega)
      have e1 := IntWalk.i64_in ((sg k a).tdiv (sg k b)) (by omega)
      have hne' : (sg k b == 0) = false := by simpa using hne
      have h0' : (b == 0) = false := by simpa using h0
      have sa := signedOf_eq ha
      have sb := signedOf_eq hb
      have E1 := Lib.hid (show quoS k a b = (sg k a).tdiv (sg k b) % pw k by unfold quoS; rw [hd.out]; rfl)
      have E2 := Lib.hid (show remS k a b = (sg k a).tmod (sg k b) % pw k by unfold remS; rw [hd.out]; rfl)
      go_enter Try.func37, Try.ntmps37
      go_wp2_with (first | (go_at_call 39; refine (both_any _ _ _ _).mono ?_; rintro e w' ⟨rfl, rfl⟩) | (go_at_call 51; refine (signedOfS_any _ _ _).mono ?_; rintro e w' ⟨rfl, rfl⟩))
      go_quiet ((go_at_call 40; first | exact quiet_1 (l1Mod_any _ _ _ (by omega) (by omega)) | exact quiet_2 (l1Mod_any _ _ _ (by omega) (by omega))))
      go_wp2_with fail
      go_ret3
      exact ⟨ret_tup E1.out.symm E2.out.symm hd.out.symm, below_drewN (Below.refl _ _) _⟩
  · have h : v2 k a b = false := by simpa using h
    have E1 := Lib.hid (show quoS k a b = -1 by unfold quoS vD; rw [h]; rfl)
    have E2 := Lib.hid (show remS k a b = -1 by unfold remS vD; rw [h]; rfl)
    have E3 := Lib.hid (show vD k a b = false by unfold vD; rw [h]; rfl)
    go_enter Try.func37, Try.ntmps37
    go_wp2_with ((go_at_call 39; refine (both_any _ _ _ _).mono ?_; rintro e w' ⟨rfl, rfl⟩))
    go_ret3
    exact ⟨ret_tup E1.out.symm E2.out.symm E3.out.symm, Below.refl _ _⟩
end Go.Proofs.Yteafbfmljhcpiaa