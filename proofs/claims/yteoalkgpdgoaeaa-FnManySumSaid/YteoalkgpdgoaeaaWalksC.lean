/-
  THE WALKS OF KINDS, PRODUCTS AND DIVISIONS, the program's and the reference's: each answers plain functions of its arguments; no condition.
-/
import Derived.Test.YteoalkgpdgoaeaaWalksB
import Derived.Test.YteoalkgpdgoaeaaAdders
import Derived.Test.YteoalkgpdgoaeaaProducts
namespace Go.Proofs.Yteoalkgpdgoaeaa
open Go Go.RowKit Bw
set_option linter.unusedVariables false
theorem ret_tup {a b c d : Int} {x y : Bool} (h : a = b) (h' : c = d) (hx : x = y) : Ending.returned (.tuple #[.int .i64 a, .int .i64 c, .bool x]) = .returned (.tuple #[.int .i64 b, .int .i64 d, .bool y]) := by rw [h, h', hx]

theorem joinI_any (x y : Int) (w : World) :
    Calls Try.prog 30 #[.int .i64 x, .int .i64 y] w fun e w' => e = .returned (.int .i64 (join x y)) ∧ w = w' := by
  have hx : inB x 0 2 = vT x := rfl
  have hy : inB y 0 2 = vT y := rfl
  by_cases h1 : vT x = true
  · by_cases h2 : vT y = true
    · by_cases h3 : y = 1
      · subst h3
        have E := Lib.hid (show join x 1 = x by unfold join; rw [h1, h2]; rfl)
        go_enter Try.func30, Try.ntmps30
        go_wp2_with ((go_at_call 72; refine (within_any _ _ _ _).mono ?_; rintro e w' ⟨rfl, rfl⟩))
        go_ret
        exact ⟨ret_int E.out.symm, rfl⟩
      · have hb : (y == 1) = false := by simpa using h3
        have E := Lib.hid (show join x y = y by unfold join; rw [h1, h2]; simp [h3])
        go_enter Try.func30, Try.ntmps30
        go_wp2_with ((go_at_call 72; refine (within_any _ _ _ _).mono ?_; rintro e w' ⟨rfl, rfl⟩))
        go_ret
        exact ⟨ret_int E.out.symm, rfl⟩
    · have h2 : vT y = false := by simpa using h2
      have E := Lib.hid (show join x y = -1 by unfold join; rw [h1, h2]; rfl)
      go_enter Try.func30, Try.ntmps30
      go_wp2_with ((go_at_call 72; refine (within_any _ _ _ _).mono ?_; rintro e w' ⟨rfl, rfl⟩))
      go_ret
      exact ⟨ret_int E.out.symm, rfl⟩
  · have h1 : vT x = false := by simpa using h1
    have E := Lib.hid (show join x y = -1 by unfold join; rw [h1]; rfl)
    go_enter Try.func30, Try.ntmps30
    go_wp2_with ((go_at_call 72; refine (within_any _ _ _ _).mono ?_; rintro e w' ⟨rfl, rfl⟩))
    go_ret
    exact ⟨ret_int E.out.symm, rfl⟩
theorem joinS_any (x y : Int) (w : World) :
    Calls Try.prog 31 #[.int .i64 x, .int .i64 y] w fun e w' => e = .returned (.int .i64 (join x y)) ∧ w = w' := by
  have hx : inB x 0 2 = vT x := rfl
  have hy : inB y 0 2 = vT y := rfl
  by_cases h1 : vT x = true
  · by_cases h2 : vT y = true
    · by_cases h3 : y = 1
      · subst h3
        have E := Lib.hid (show join x 1 = x by unfold join; rw [h1, h2]; rfl)
        go_enter Try.func31, Try.ntmps31
        go_wp2_with ((go_at_call 62; refine (l1In_any _ _ _ _).mono ?_; rintro e w' ⟨rfl, rfl⟩))
        go_ret
        exact ⟨ret_int E.out.symm, rfl⟩
      · have hb : (y == 1) = false := by simpa using h3
        have E := Lib.hid (show join x y = y by unfold join; rw [h1, h2]; simp [h3])
        go_enter Try.func31, Try.ntmps31
        go_wp2_with ((go_at_call 62; refine (l1In_any _ _ _ _).mono ?_; rintro e w' ⟨rfl, rfl⟩))
        go_ret
        exact ⟨ret_int E.out.symm, rfl⟩
    · have h2 : vT y = false := by simpa using h2
      have E := Lib.hid (show join x y = -1 by unfold join; rw [h1, h2]; rfl)
      go_enter Try.func31, Try.ntmps31
      go_wp2_with ((go_at_call 62; refine (l1In_any _ _ _ _).mono ?_; rintro e w' ⟨rfl, rfl⟩))
      go_ret
      exact ⟨ret_int E.out.symm, rfl⟩
  · have h1 : vT x = false := by simpa using h1
    have E := Lib.hid (show join x y = -1 by unfold join; rw [h1]; rfl)
    go_enter Try.func31, Try.ntmps31
    go_wp2_with ((go_at_call 62; refine (l1In_any _ _ _ _).mono ?_; rintro e w' ⟨rfl, rfl⟩))
    go_ret
    exact ⟨ret_int E.out.symm, rfl⟩
end Go.Proofs.Yteoalkgpdgoaeaa