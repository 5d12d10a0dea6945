/-
  THE WALKS OF KINDS, PRODUCTS AND DIVISIONS, the program's and the reference's: each answers plain functions of its arguments; no condition.
-/
import Derived.Test.YteafbfmljhcpiaaWalksB
import Derived.Test.YteafbfmljhcpiaaAdders
import Derived.Test.YteafbfmljhcpiaaProducts
namespace Go.Proofs.Yteafbfmljhcpiaa
open Go Go.RowKit Bw
set_option linter.unusedVariables false
theorem ret_tup {a b c d : Int} {x y : Bool} (h : a = b) (h' : c = d) (hx : x = y) : Ending.returned (.tuple #[.int .i64 a, .int .i64 c, .bool x]) = .returned (.tuple #[.int .i64 b, .int .i64 d, .bool y]) := by rw [h, h', hx]

theorem wide_any (k a b : Int) (w : World) (h : v2 k a b = true) :
    Calls Try.prog 42 #[.int .i64 k, .int .i64 a, .int .i64 b] w fun e w' => e = .returned (.tuple #[.int .i64 (a * b / pw k), .int .i64 (a * b % pw k), .bool true]) ∧ Below w.heap.size w w' := by
  obtain ⟨h1, h2, h3, h4, h5, h6, h12⟩ := v2_bd h
  have hm := prod_bd h
  have hr := shr_eq (a * b) k
  go_enter Try.func42, Try.ntmps42
  go_wp2_with fail
  go_quiet ((go_at_call 60; exact Calls.quiet_of_same (same_of (cut_any _ _ _ (by omega) (by omega)))))
  go_wp2_with fail
  go_ret3
  exact ⟨rfl, below_drewN (Below.refl _ _) _⟩
theorem wideI_any (k a b : Int) (w : World) :
    Calls Try.prog 16 #[.int .i64 k, .int .i64 a, .int .i64 b] w fun e w' => e = .returned (.tuple #[.int .i64 (wideHi k a b), .int .i64 (wideLo k a b), .bool (v2 k a b)]) ∧ Below w.heap.size w w' := by
  by_cases h : v2 k a b = true
  · obtain ⟨h1, h2, h3, h4, h5, h6, h12⟩ := v2_bd h
    have hm := prod_bd h
    have hr := shr_eq (a * b) k
    have E1 := Lib.hid (show wideHi k a b = a * b / pw k by unfold wideHi; rw [h]; rfl)
    have E2 := Lib.hid (show wideLo k a b = a * b % pw k by unfold wideLo; rw [h]; rfl)
    have E3 := Lib.hid (h)
    go_enter Try.func16, Try.ntmps16
    go_wp2_with (first | (go_at_call 41; refine (allValid2_any _ _ _ _ _ (by first | exact (below_new1 _ _).trans (hb.mono (by simp)) | rfl | simp)).mono ?_; rintro e w' ⟨rfl, rfl⟩) | (go_at_call 42; refine (wide_any _ _ _ _ h).mono ?_; rintro e w' ⟨rfl, hb⟩))
    go_ret3
    exact ⟨ret_tup E1.out.symm E2.out.symm E3.out.symm, by first | exact (below_new1 _ _).trans (hb.mono (by simp)) | exact Below.refl _ _ | exact below_new1 _ _ | exact below_drewN (below_new1 _ _) _ | exact below_drewN (Below.refl _ _) _⟩
  · have h : v2 k a b = false := by simpa using h
    have E1 := Lib.hid (show wideHi k a b = -1 by unfold wideHi; rw [h]; rfl)
    have E2 := Lib.hid (show wideLo k a b = -1 by unfold wideLo; rw [h]; rfl)
    have E3 := Lib.hid (h)
    go_enter Try.func16, Try.ntmps16
    go_wp2_with ((go_at_call 41; refine (allValid2_any _ _ _ _ _ (by first | rfl | simp)).mono ?_; rintro e w' ⟨rfl, rfl⟩))
    go_ret3
    exact ⟨ret_tup E1.out.symm E2.out.symm E3.out.symm, by first | exact Below.refl _ _ | exact below_new1 _ _ | exact below_drewN (below_new1 _ _) _ | exact below_drewN (Below.refl _ _) _⟩

theorem wideS_any (k a b : Int) (w : World) :
    Calls Try.prog 15 #[.int .i64 k, .int .i64 a, .int .i64 b] w fun e w' => e = .returned (.tuple #[.int .i64 (wideHi k a b), .int .i64 (wideLo k a b), .bool (v2 k a b)]) ∧ Below w.heap.size w w' := by
  by_cases h : v2 k a b = true
  · obtain ⟨h1, h2, h3, h4, h5, h6, h12⟩ := v2_bd h
    have hm := prod_bd h
    have hr := shr_eq (a * b) k
    have E1 := Lib.hid (show wideHi k a b = a * b / pw k by unfold wideHi; rw [h]; rfl)
    have E2 := Lib.hid (show wideLo k a b = a * b % pw k by unfold wideLo; rw [h]; rfl)
    have E3 := Lib.hid (h)
    go_enter Try.func15, Try.ntmps15
    go_wp2_with (first | (go_at_call 39; refine (both_any _ _ _ _).mono ?_; rintro e w' ⟨rfl, rfl⟩) | (go_at_call 40; refine (l1Mod_any _ _ _ (by omega) (by omega)).mono ?_; rintro e w' ⟨rfl, rfl⟩))
    go_quiet ((go_at_call 40; exact Calls.quiet_of_same (same_of (l1Mod_any _ _ _ (by omega) (by omega)))))
    go_wp2_with (first | (go_at_call 39; refine (both_any _ _ _ _).mono ?_; rintro e w' ⟨rfl, rfl⟩) | (go_at_call 40; refine (l1Mod_any _ _ _ (by omega) (by omega)).mono ?_; rintro e w' ⟨rfl, rfl⟩))
    go_ret3
    exact ⟨ret_tup E1.out.symm E2.out.symm E3.out.symm, by first | exact (below_new1 _ _).trans (hb.mono (by simp)) | exact Below.refl _ _ | exact below_new1 _ _ | exact below_drewN (below_new1 _ _) _ | exact below_drewN (Below.refl _ _) _⟩
  · have h : v2 k a b = false := by simpa using h
    have E1 := Lib.hid (show wideHi k a b = -1 by unfold wideHi; rw [h]; rfl)
    have E2 := Lib.hid (show wideLo k a b = -1 by unfold wideLo; rw [h]; rfl)
    have E3 := Lib.hid (h)
    go_enter Try.func15, Try.ntmps15
    go_wp2_with ((go_at_call 39; refine (both_any _ _ _ _).mono ?_; rintro e w' ⟨rfl, rfl⟩))
    go_ret3
    exact ⟨ret_tup E1.out.symm E2.out.symm E3.out.symm, by first | exact Below.refl _ _ | exact below_new1 _ _ | exact below_drewN (below_new1 _ _) _ | exact below_drewN (Below.refl _ _) _⟩

end Go.Proofs.Yteafbfmljhcpiaa