/-
  THE WALKS OF less by carries, three words as two, and the division by signs. Each answers plain functions; no condition.
-/
import Derived.Test.YteoalkgpdgoaeaaListsB
namespace Go.Proofs.Yteoalkgpdgoaeaa
open Go Go.RowKit Bw
set_option linter.unusedVariables false

def v3 (k a b c : Int) : Bool := v2 k a b && vX k c
def three1 (k a b c : Int) : Int := if v3 k a b c then t3x a b c else -1
def three2 (k a b c : Int) : Int := if v3 k a b c then t3y k a b c else -1
theorem v3_iff {k a b c : Int} : v3 k a b c = true ↔ vX k a = true ∧ vX k b = true ∧ vX k c = true := by unfold v3; simp only [Bool.and_eq_true, v2_iff]; exact and_assoc
theorem threeI_any (k a b c : Int) (w : World) :
    Calls Try.prog 61 #[.int .i64 k, .int .i64 a, .int .i64 b, .int .i64 c] w fun e w' => e = .returned (.tuple #[.int .i64 (three1 k a b c), .int .i64 (three2 k a b c), .bool (v3 k a b c)]) ∧ Below w.heap.size w w' := by
  have hvv : (v2 k a b && vX k c) = v3 k a b c := rfl
  by_cases h : v3 k a b c = true
  · obtain ⟨ha, hb, hc⟩ := v3_iff.mp h
    obtain ⟨h1, h2, a0, a1, h12⟩ := vX_bd ha
    obtain ⟨-, -, b0, b1, -⟩ := vX_bd hb
    obtain ⟨-, -, c0, c1, -⟩ := vX_bd hc
    have x1 := bits_xor (a := a) (b := b) (by omega) (by omega) (by omega) (by omega)
    have y1 := xorI_lt a0 b0 a1 b1
    have x2 : bits .xor .i64 (xorI a b) c = t3x a b c := bits_xor (by omega) (by omega) (by omega) (by omega)
    have n1 := bits_and (a := a) (b := b) (by omega) (by omega) (by omega) (by omega)
    have n2 := bits_and (a := a) (b := c) (by omega) (by omega) (by omega) (by omega)
    have n3 := bits_and (a := b) (b := c) (by omega) (by omega) (by omega) (by omega)
    have z1 := and_bd a b a0 b0
    have z2 := and_bd a c a0 c0
    have z3 := and_bd b c b0 c0
    have o1 := bits_or (a := andI a b) (b := andI a c) (by omega) (by omega) (by omega) (by omega)
    have z4 := orI_lt (a := andI a b) (b := andI a c) (k := k) (by omega) (by omega) (by omega) (by omega)
    have o2 : bits .or .i64 (orI (andI a b) (andI a c)) (andI b c) = maj a b c := bits_or (by omega) (by omega) (by omega) (by omega)
    have z5 := vX_bd (maj_bd ha hb hc)
    have E1 := Lib.hid (show three1 k a b c = t3x a b c by unfold three1; rw [h]; rfl)
    have E2 := Lib.hid (show three2 k a b c = maj a b c * 2 % pw k by unfold three2; rw [h]; rfl)
    have E3 := Lib.hid h
    have hab := v2_mk ha hb
    go_enter Try.func61, Try.ntmps61
    go_wp2_with (first | (go_at_call 60; refine (allValid3_any _ _ _ _ _ _ (by first | rfl | simp)).mono ?_; rintro e w' ⟨rfl, rfl⟩) | (go_at_call 76; refine (cut_any _ _ _ (by omega) (by omega)).mono ?_; rintro e w' ⟨rfl, rfl⟩))
    go_ret3
    exact ⟨ret_tup E1.out.symm E2.out.symm E3.out.symm, below_new1 _ _⟩
  · have h : v3 k a b c = false := by simpa using h
    have E1 := Lib.hid (show three1 k a b c = -1 by unfold three1; rw [h]; rfl)
    have E2 := Lib.hid (show three2 k a b c = -1 by unfold three2; rw [h]; rfl)
    have E3 := Lib.hid h
    go_enter Try.func61, Try.ntmps61
    go_wp2_with ((go_at_call 60; refine (allValid3_any _ _ _ _ _ _ (by first | rfl | simp)).mono ?_; rintro e w' ⟨rfl, rfl⟩))
    go_ret3
    exact ⟨ret_tup E1.out.symm E2.out.symm E3.out.symm, below_new1 _ _⟩
theorem l1Xor_any (a b : Int) (w : World) (ha : 0 ≤ a) (ha1 : a < 1073741824) (hb : 0 ≤ b) (hb1 : b < 1073741824) :
    Calls Try.prog 91 #[.int .i64 a, .int .i64 b] w fun e w' => e = .returned (.int .i64 (xorI a b)) ∧ w = w' := by
  have E := Lib.hid (xor_and a b ha hb)
  have hn := and_bd a b ha hb
  go_enter Try.func91, Try.ntmps91
  go_wp2_with (go_at_call 86; refine (l1And_any _ _ _ (by omega) (by omega) (by omega) (by omega)).mono ?_; rintro e w' ⟨rfl, rfl⟩)
  go_ret
  exact ⟨ret_int E.out.symm, rfl⟩
theorem l1Or_any (a b : Int) (w : World) (ha : 0 ≤ a) (ha1 : a < 1073741824) (hb : 0 ≤ b) (hb1 : b < 1073741824) :
    Calls Try.prog 92 #[.int .i64 a, .int .i64 b] w fun e w' => e = .returned (.int .i64 (orI a b)) ∧ w = w' := by
  have E := Lib.hid (or_and a b ha hb)
  have hn := and_bd a b ha hb
  go_enter Try.func92, Try.ntmps92
  go_wp2_with (go_at_call 86; refine (l1And_any _ _ _ (by omega) (by omega) (by omega) (by omega)).mono ?_; rintro e w' ⟨rfl, rfl⟩)
  go_ret
  exact ⟨ret_int E.out.symm, rfl⟩
theorem threeS_any (k a b c : Int) (w : World) :
    Calls Try.prog 63 #[.int .i64 k, .int .i64 a, .int .i64 b, .int .i64 c] w fun e w' => e = .returned (.tuple #[.int .i64 (three1 k a b c), .int .i64 (three2 k a b c), .bool (v3 k a b c)]) ∧ w = w' := by
  by_cases hab : v2 k a b = true
  · by_cases hc' : vX k c = true
    · have h : v3 k a b c = true := by unfold v3; rw [hab, hc']; rfl
      obtain ⟨ha, hb, hc⟩ := v3_iff.mp h
      obtain ⟨h1, h2, a0, a1, h12⟩ := vX_bd ha
      obtain ⟨-, -, b0, b1, -⟩ := vX_bd hb
      obtain ⟨-, -, c0, c1, -⟩ := vX_bd hc
      have y1 := xorI_lt a0 b0 a1 b1
      have z1 := and_bd a b a0 b0
      have z2 := and_bd a c a0 c0
      have z3 := and_bd b c b0 c0
      have z4 := orI_lt (a := andI a b) (b := andI a c) (k := k) (by omega) (by omega) (by omega) (by omega)
      have z5 := vX_bd (maj_bd ha hb hc)
      have E1 := Lib.hid (show three1 k a b c = xorI (xorI a b) c by unfold three1; rw [h]; rfl)
      have E2 := Lib.hid (show three2 k a b c = 2 * orI (orI (andI a b) (andI a c)) (andI b c) % pw k by unfold three2 t3y maj; rw [h, Int.mul_comm]; rfl)
      have E3 := Lib.hid h
      have m1 : 0 ≤ orI (orI (andI a b) (andI a c)) (andI b c) ∧ orI (orI (andI a b) (andI a c)) (andI b c) < 4096 := by
        have e : orI (orI (andI a b) (andI a c)) (andI b c) = maj a b c := rfl
        rw [e]; omega
      clear h z5
      go_enter Try.func63, Try.ntmps63
      go_wp2_with (first | (go_at_call 84; refine (both_any _ _ _ _).mono ?_; rintro e w' ⟨rfl, rfl⟩) | (go_at_call 34; refine (validS_any _ _ _).mono ?_; rintro e w' ⟨rfl, rfl⟩) | (go_at_call 77; refine (l1Mod_any _ _ _ (by omega) (by omega)).mono ?_; rintro e w' ⟨rfl, rfl⟩) | (go_at_call 91; refine (l1Xor_any _ _ _ (by omega) (by omega) (by omega) (by omega)).mono ?_; rintro e w' ⟨rfl, rfl⟩) | (go_at_call 86; refine (l1And_any _ _ _ (by omega) (by omega) (by omega) (by omega)).mono ?_; rintro e w' ⟨rfl, rfl⟩) | (go_at_call 92; refine (l1Or_any _ _ _ (by omega) (by omega) (by omega) (by omega)).mono ?_; rintro e w' ⟨rfl, rfl⟩))
      go_ret3
      exact ⟨ret_tup E1.out.symm E2.out.symm E3.out.symm, rfl⟩
    · have hc' : vX k c = false := by simpa using hc'
      have h : v3 k a b c = false := by unfold v3; rw [hc']; simp
      have E1 := Lib.hid (show three1 k a b c = -1 by unfold three1; rw [h]; rfl)
      have E2 := Lib.hid (show three2 k a b c = -1 by unfold three2; rw [h]; rfl)
      have E3 := Lib.hid h
      clear h
      go_enter Try.func63, Try.ntmps63
      go_wp2_with (first | (go_at_call 84; refine (both_any _ _ _ _).mono ?_; rintro e w' ⟨rfl, rfl⟩) | (go_at_call 34; refine (validS_any _ _ _).mono ?_; rintro e w' ⟨rfl, rfl⟩))
      go_ret3
      exact ⟨ret_tup E1.out.symm E2.out.symm E3.out.symm, rfl⟩
  · have hab : v2 k a b = false := by simpa using hab
    have h : v3 k a b c = false := by unfold v3; rw [hab]; rfl
    have E1 := Lib.hid (show three1 k a b c = -1 by unfold three1; rw [h]; rfl)
    have E2 := Lib.hid (show three2 k a b c = -1 by unfold three2; rw [h]; rfl)
    have E3 := Lib.hid h
    clear h
    go_enter Try.func63, Try.ntmps63
    go_wp2_with (first | (go_at_call 84; refine (both_any _ _ _ _).mono ?_; rintro e w' ⟨rfl, rfl⟩) | (go_at_call 34; refine (validS_any _ _ _).mono ?_; rintro e w' ⟨rfl, rfl⟩))
    go_ret3
    exact ⟨ret_tup E1.out.symm E2.out.symm E3.out.symm, rfl⟩
end Go.Proofs.Yteoalkgpdgoaeaa