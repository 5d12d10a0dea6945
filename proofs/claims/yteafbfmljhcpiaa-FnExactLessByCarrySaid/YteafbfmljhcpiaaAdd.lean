/-
  THE WALKS OF less by carries, three words as two, and the division by signs. Each answers plain functions; no condition.
-/
import Derived.Test.YteafbfmljhcpiaaListsB
namespace Go.Proofs.Yteafbfmljhcpiaa
open Go Go.RowKit Bw
set_option linter.unusedVariables false

theorem form_of {k : Nat} {a b c : Int} {w w' : World} {B : Nat} {v : Value} {l : List Int} (hl : l = tab (carry a b c) (k + 1)) (ho : Own w' B v l) :
    ∃ g cap, v = .slice (some ⟨g, 0, none⟩) (k + 1) cap ∧ w'.cell? ⟨g, k, none⟩ = some (.int .i64 (carry a b c k)) := by
  subst hl
  obtain ⟨g, cap, rfl, _, hcell⟩ := own_cell ho (tab_ne _ _)
  have hx := hcell k (by rw [tab_len]; omega)
  rw [tab_get _ _ _ (by omega)] at hx
  rw [tab_len]
  exact ⟨g, cap, rfl, hx⟩
theorem carries_form (K : Nat) (a b c : Int) (w : World) (h1 : K ≤ 12) (hc : 0 ≤ c ∧ c ≤ 1) :
    Calls Try.prog 63 #[.int .i64 (K : Int), .int .i64 a, .int .i64 b, .int .i64 c] w fun e w' =>
      ∃ g cap, e = .returned (.slice (some ⟨g, 0, none⟩) (K + 1) cap) ∧ w'.cell? ⟨g, K, none⟩ = some (.int .i64 (carry a b c K)) ∧ Below w.heap.size w w' := by
  refine (carries_any K a b c w (by omega) (by omega) hc).mono fun e w' hh => ?_
  obtain ⟨v, rfl, ho, hb⟩ := hh
  obtain ⟨g, cap, rfl, hx⟩ := form_of (w := w) (k := K) (a := a) (b := b) (c := c) (by unfold carriesL tab; rw [Int.toNat_natCast]) ho
  exact ⟨g, cap, rfl, hx, hb⟩
theorem lessI_any (k a b : Int) (w : World) :
    Calls Try.prog 36 #[.int .i64 k, .int .i64 a, .int .i64 b] w fun e w' => e = .returned (.bool (less k a b)) ∧ Below w.heap.size w w' := by
  by_cases h : v2 k a b = true
  · obtain ⟨h1, h2, h3, h4, h5, h6, h12⟩ := v2_bd h
    obtain ⟨K, rfl⟩ : ∃ K : Nat, k = (K : Int) := ⟨k.toNat, by omega⟩
    have hx := xor_neg1 (n := b) (by omega) (by omega)
    have hcut : (-1 - b) % pw K = pw K - 1 - b := by
      have : (-1 - b) % pw (K : Int) = (pw K - 1 - b) % pw (K : Int) := (cong 1 (by omega)).symm
      rw [this, Int.emod_eq_of_lt (by omega) (by omega)]
    have hl := less_carry h
    have E := Lib.hid (show less K a b = (carry a (pw K - 1 - b) 1 K == 0) by
      unfold less; rw [h, Bool.true_and, beq_dec, decide_eq_decide]
      exact hl.symm)
    clear hl
    go_enter Try.func36, Try.ntmps36
    have k1 : (K : Int) < ((K + 1 : Nat) : Int) := by omega
    have k0 : (0 : Int) ≤ (K : Int) := by omega
    go_wp2_with (first | (go_at_call 41; refine (allValid2_any _ _ _ _ _ (by first | rfl | simp)).mono ?_; rintro e w' ⟨rfl, rfl⟩) | (go_at_call 60; refine (cut_any _ _ _ (by omega) (by omega)).mono ?_; rintro e w' ⟨rfl, rfl⟩))
    refine (carries_form K _ _ _ _ (by omega) (by omega)).mono ?_
    rintro e w1 ⟨g, cap, rfl, hcl, hb⟩
    go_wp2
    go_ret
    exact ⟨ret_bool E.out.symm, (below_new1 _ _).trans (hb.mono (by simp))⟩
  · have h : v2 k a b = false := by simpa using h
    have E := Lib.hid (show less k a b = false by unfold less; rw [h]; rfl)
    go_enter Try.func36, Try.ntmps36
    go_wp2_with ((go_at_call 41; refine (allValid2_any _ _ _ _ _ (by first | rfl | simp)).mono ?_; rintro e w' ⟨rfl, rfl⟩))
    go_ret
    exact ⟨ret_bool E.out.symm, below_new1 _ _⟩
theorem lessS_any (k a b : Int) (w : World) :
    Calls Try.prog 35 #[.int .i64 k, .int .i64 a, .int .i64 b] w fun e w' => e = .returned (.bool (less k a b)) ∧ Below w.heap.size w w' := by
  by_cases h : v2 k a b = true
  · obtain ⟨h1, h2, h3, h4, h5, h6, h12⟩ := v2_bd h
    obtain ⟨ha, hbb⟩ := v2_iff.mp h
    obtain ⟨K, rfl⟩ : ∃ K : Nat, k = (K : Int) := ⟨k.toNat, by omega⟩
    have hl := less_carry h
    have hwn := wnot_eq hbb
    have hvn : v2 K a (pw K - 1 - b) = true := by rw [← hwn]; exact v2_mk ha (vX_wnot hbb)
    have E := Lib.hid (show less K a b = (carry a (pw K - 1 - b) 1 K == 0) by
      unfold less; rw [h, Bool.true_and, beq_dec, decide_eq_decide]
      exact hl.symm)
    have hf := Lib.hid (show carriesF K a (pw K - 1 - b) 1 = tab (carry a (pw K - 1 - b) 1) (K + 1) by unfold carriesF; rw [hvn]; rfl)
    clear hl
    have k1 : (K : Int) < ((K + 1 : Nat) : Int) := by omega
    have k0 : (0 : Int) ≤ (K : Int) := by omega
    go_enter Try.func35, Try.ntmps35
    go_wp2_with (first | (go_at_call 62; refine (wnotS_any _ _ _).mono ?_; rintro e w' ⟨rfl, rfl⟩) | (go_at_call 39; refine (both_any _ _ _ _).mono ?_; rintro e w' ⟨rfl, rfl⟩))
    refine (carriesS_any _ _ _ _ _).mono ?_
    rintro e w1 ⟨v, he, ho, hb⟩
    obtain ⟨g, cap, hv, hcl⟩ := form_of (w := w) hf.out ho
    rw [hv] at he
    clear ho hv
    obtain rfl := he
    go_wp2_with (first | (go_at_call 39; refine (both_any _ _ _ _).mono ?_; rintro e w' ⟨rfl, rfl⟩))
    go_ret
    exact ⟨ret_bool E.out.symm, hb⟩
  · have h : v2 k a b = false := by simpa using h
    have E := Lib.hid (show less k a b = false by unfold less; rw [h]; rfl)
    go_enter Try.func35, Try.ntmps35
    go_wp2_with (first | (go_at_call 62; refine (wnotS_any _ _ _).mono ?_; rintro e w' ⟨rfl, rfl⟩))
    refine (carriesS_any _ _ _ _ _).mono ?_
    rintro e w1 ⟨v, rfl, ho, hb⟩
    go_wp2_with (first | (go_at_call 39; refine (both_any _ _ _ _).mono ?_; rintro e w' ⟨rfl, rfl⟩))
    go_ret
    exact ⟨ret_bool E.out.symm, hb⟩
end Go.Proofs.Yteafbfmljhcpiaa