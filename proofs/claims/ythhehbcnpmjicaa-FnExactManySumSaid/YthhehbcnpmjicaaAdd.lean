/-
  THE WALKS OF less by carries, three words as two, and the division by signs. Each answers plain functions; no condition.
-/
import Derived.Test.YthhehbcnpmjicaaListsB
namespace Go.Proofs.Ythhehbcnpmjicaa
open Go Go.RowKit Bw
set_option linter.unusedVariables false

def v3 (k a b c : Int) : Bool := v2 k a b && vX k c
def three1 (k a b c : Int) : Int := if v3 k a b c then t3x a b c else -1
def three2 (k a b c : Int) : Int := if v3 k a b c then t3y k a b c else -1
theorem v3_iff {k a b c : Int} : v3 k a b c = true ↔ vX k a = true ∧ vX k b = true ∧ vX k c = true := by unfold v3; simp only [Bool.and_eq_true, v2_iff]; exact and_assoc
theorem threeI_any (k a b c : Int) (w : World) :
    Calls Try.prog 18 #[.int .i64 k, .int .i64 a, .int .i64 b, .int .i64 c] w fun e w' => e = .returned (.tuple #[.int .i64 (three1 k a b c), .int .i64 (three2 k a b c), .bool (v3 k a b c)]) ∧ Below w.heap.size w w' := by
  have hvv : (v2 k a b && vX k c) = v3 k a b c := rfl
  by_cases h : v3 k a b c = true
  · obtain ⟨ha, hb, hc⟩ := v3_iff.mp h
    obtain ⟨h1, h2, a0, a1, h12⟩ := vX_bd ha
    obtain ⟨-, -, b0, b1, -⟩ := vX_bd hb
    obtain ⟨-, -, c0, c1, -⟩ := vX_bd hc
    have x1 := bits_xor (a := a) (b := b) (by omega) (by omega) (by omega) (by omega)
    have y1 := xorI_lt a0 b0 a1 b1
    have x2 : bits .xor .i64 (xorI a b) c = t3x a b c := bits_xor (by omega) (by omega) (by omega) (by omega)
    have n1 := bits_and (a := a) (b := b) (by omega) (by omega) (by omega) (by omega)
    have n2 := bits_and (a := a) (b := c) (by omega) (by omega) (by omega) (by omega)
    have n3 := bits_and (a := b) (b := c) (by omega) (by omega) (by omega) (by omega)
    have z1 := and_bd a b a0 b0
    have z2 := and_bd a c a0 c0
    have z3 := and_bd b c b0 c0
    have o1 := bits_or (a := andI a b) (b := andI a c) (by omega) (by omega) (by omega) (by omega)
    have z4 := orI_lt (a := andI a b) (b := andI a c) (k := k) (by omega) (by omega) (by omega) (by omega)
    have o2 : bits .or .i64 (orI (andI a b) (andI a c)) (andI b c) = maj a b c := bits_or (by omega) (by omega) (by omega) (by omega)
    have z5 := vX_bd (maj_bd ha hb hc)
    have E1 := Lib.hid (show three1 k a b c = t3x a b c by unfold three1; rw [h]; rfl)
    have E2 := Lib.hid (show three2 k a b c = maj a b c * 2 % pw k by unfold three2; rw [h]; rfl)
    have E3 := Lib.hid h
    have hab := v2_mk ha hb
    go_enter Try.func18, Try.ntmps18
    go_wp2_with (first | (go_at_call 56; refine (allValid3_any _ _ _ _ _ _ (by first | rfl | simp)).mono ?_; rintro e w' ⟨rfl, rfl⟩) | (go_at_call 57; refine (cut_any _ _ _ (by omega) (by omega)).mono ?_; rintro e w' ⟨rfl, rfl⟩))
    go_ret3
    exact ⟨ret_tup E1.out.symm E2.out.symm E3.out.symm, below_new1 _ _⟩
  · have h : v3 k a b c = false := by simpa using h
    have E1 := Lib.hid (show three1 k a b c = -1 by unfold three1; rw [h]; rfl)
    have E2 := Lib.hid (show three2 k a b c = -1 by unfold three2; rw [h]; rfl)
    have E3 := Lib.hid h
    go_enter Try.func18, Try.ntmps18
    go_wp2_with ((go_at_call 56; refine (allValid3_any _ _ _ _ _ _ (by first | rfl | simp)).mono ?_; rintro e w' ⟨rfl, rfl⟩))
    go_ret3
    exact ⟨ret_tup E1.out.symm E2.out.symm E3.out.symm, below_new1 _ _⟩
theorem l1Xor_any (a b : Int) (w : World) (ha : 0 ≤ a) (ha1 : a < 1073741824) (hb : 0 ≤ b) (hb1 : b < 1073741824) :
    Calls Try.prog 53 #[.int .i64 a, .int .i64 b] w fun e w' => e = .returned (.int .i64 (xorI a b)) ∧ w = w' := by
  have E := Lib.hid (xor_and a b ha hb)
  have hn := and_bd a b ha hb
  go_enter Try.func53, Try.ntmps53
  go_wp2_with (go_at_call 55; refine (l1And_any _ _ _ (by omega) (by omega) (by omega) (by omega)).mono ?_; rintro e w' ⟨rfl, rfl⟩)
  go_ret
  exact ⟨ret_int E.out.symm, rfl⟩
theorem l1Or_any (a b : Int) (w : World) (ha : 0 ≤ a) (ha1 : a < 1073741824) (hb : 0 ≤ b) (hb1 : b < 1073741824) :
    Calls Try.prog 54 #[.int .i64 a, .int .i64 b] w fun e w' => e = .returned (.int .i64 (orI a b)) ∧ w = w' := by
  have E := Lib.hid (or_and a b ha hb)
  have hn := and_bd a b ha hb
  go_enter Try.func54, Try.ntmps54
  go_wp2_with (go_at_call 55; refine (l1And_any _ _ _ (by omega) (by omega) (by omega) (by omega)).mono ?_; rintro e w' ⟨rfl, rfl⟩)
  go_ret
  exact ⟨ret_int E.out.symm, rfl⟩
theorem threeS_any (k a b c : Int) (w : World) :
    Calls Try.prog 17 #[.int .i64 k, .int .i64 a, .int .i64 b, .int .i64 c] w fun e w' => e = .returned (.tuple #[.int .i64 (three1 k a b c), .int .i64 (three2 k a b c), .bool (v3 k a b c)]) ∧ w = w' := by
  by_cases hab : v2 k a b = true
  · by_cases hc' : vX k c = true
    · have h : v3 k a b c = true := by unfold v3; rw [hab, hc']; rfl
      obtain ⟨ha, hb, hc⟩ := v3_iff.mp h
      obtain ⟨h1, h2, a0, a1, h12⟩ := vX_bd ha
      obtain ⟨-, -, b0, b1, -⟩ := vX_bd hb
      obtain ⟨-, -, c0, c1, -⟩ := vX_bd hc
      have y1 := xorI_lt a0 b0 a1 b1
      have z1 := and_bd a b a0 b0
      have z2 := and_bd a c a0 c0
      have z3 := and_bd b c b0 c0
      have z4 := orI_lt (a := andI a b) (b := andI a c) (k := k) (by omega) (by omega) (by omega) (by omega)
      have z5 := vX_bd (maj_bd ha hb hc)
      have E1 := Lib.hid (show three1 k a b c = xorI (xorI a b) c by unfold three1; rw [h]; rfl)
      have E2 := Lib.hid (show three2 k a b c = 2 * orI (orI (andI a b) (andI a c)) (andI b c) % pw k by unfold three2 t3y maj; rw [h, Int.mul_comm]; rfl)
      have E3 := Lib.hid h
      have m1 : 0 ≤ orI (orI (andI a b) (andI a c)) (andI b c) ∧ orI (orI (andI a b) (andI a c)) (andI b c) < 4096 := by
        have e : orI (orI (andI a b) (andI a c)) (andI b c) = maj a b c := rfl
        rw [e]; omega
      clear h z5
      go_enter Try.func17, Try.ntmps17
      go_wp2_with (first | (go_at_call 46; refine (both_any _ _ _ _).mono ?_; rintro e w' ⟨rfl, rfl⟩) | (go_at_call 52; refine (validS_any _ _ _).mono ?_; rintro e w' ⟨rfl, rfl⟩) | (go_at_call 47; refine (l1Mod_any _ _ _ (by omega) (by omega)).mono ?_; rintro e w' ⟨rfl, rfl⟩) | (go_at_call 53; refine (l1Xor_any _ _ _ (by omega) (by omega) (by omega) (by omega)).mono ?_; rintro e w' ⟨rfl, rfl⟩) | (go_at_call 55; refine (l1And_any _ _ _ (by omega) (by omega) (by omega) (by omega)).mono ?_; rintro e w' ⟨rfl, rfl⟩) | (go_at_call 54; refine (l1Or_any _ _ _ (by omega) (by omega) (by omega) (by omega)).mono ?_; rintro e w' ⟨rfl, rfl⟩))
      go_ret3
      exact ⟨ret_tup E1.out.symm E2.out.symm E3.out.symm, rfl⟩
    · have hc' : vX k c = false := by simpa using hc'
      have h : v3 k a b c = false := by unfold v3; rw [hc']; simp
      have E1 := Lib.hid (show three1 k a b c = -1 by unfold three1; rw [h]; rfl)
      have E2 := Lib.hid (show three2 k a b c = -1 by unfold three2; rw [h]; rfl)
      have E3 := Lib.hid h
      clear h
      go_enter Try.func17, Try.ntmps17
      go_wp2_with (first | (go_at_call 46; refine (both_any _ _ _ _).mono ?_; rintro e w' ⟨rfl, rfl⟩) | (go_at_call 52; refine (validS_any _ _ _).mono ?_; rintro e w' ⟨rfl, rfl⟩))
      go_ret3
      exact ⟨ret_tup E1.out.symm E2.out.symm E3.out.symm, rfl⟩
  · have hab : v2 k a b = false := by simpa using hab
    have h : v3 k a b c = false := by unfold v3; rw [hab]; rfl
    have E1 := Lib.hid (show three1 k a b c = -1 by unfold three1; rw [h]; rfl)
    have E2 := Lib.hid (show three2 k a b c = -1 by unfold three2; rw [h]; rfl)
    have E3 := Lib.hid h
    clear h
    go_enter Try.func17, Try.ntmps17
    go_wp2_with (first | (go_at_call 46; refine (both_any _ _ _ _).mono ?_; rintro e w' ⟨rfl, rfl⟩) | (go_at_call 52; refine (validS_any _ _ _).mono ?_; rintro e w' ⟨rfl, rfl⟩))
    go_ret3
    exact ⟨ret_tup E1.out.symm E2.out.symm E3.out.symm, rfl⟩
theorem val_int {a b : Int} (h : a = b) : Value.int .i64 a = Value.int .i64 b := by rw [h]
theorem sgn_succ (a b : Int) (K n : Nat) : let r := (sgnAt a b K n).1; let q := (sgnAt a b K n).2; let t := bt a ((K : Int) - 1 - n);
    (0 ≤ r → 0 ≤ 2 * r + t - b → (sgnAt a b K (n + 1)).1 = 2 * r + t - b ∧ (sgnAt a b K (n + 1)).2 = 2 * q + 1) ∧
    (0 ≤ r → ¬ 0 ≤ 2 * r + t - b → (sgnAt a b K (n + 1)).1 = 2 * r + t - b ∧ (sgnAt a b K (n + 1)).2 = 2 * q) ∧
    (¬ 0 ≤ r → 0 ≤ 2 * r + t + b → (sgnAt a b K (n + 1)).1 = 2 * r + t + b ∧ (sgnAt a b K (n + 1)).2 = 2 * q + 1) ∧
    (¬ 0 ≤ r → ¬ 0 ≤ 2 * r + t + b → (sgnAt a b K (n + 1)).1 = 2 * r + t + b ∧ (sgnAt a b K (n + 1)).2 = 2 * q) := by
  intro r q t
  refine ⟨fun h1 h2 => ?_, fun h1 h2 => ?_, fun h1 h2 => ?_, fun h1 h2 => ?_⟩
  · simp only [sgnAt]; rw [if_pos h1]; exact ⟨rfl, if_pos h2⟩
  · simp only [sgnAt]; rw [if_pos h1]; exact ⟨rfl, if_neg h2⟩
  · simp only [sgnAt]; rw [if_neg h1]; exact ⟨rfl, if_pos h2⟩
  · simp only [sgnAt]; rw [if_neg h1]; exact ⟨rfl, if_neg h2⟩
theorem signsI_any (k a b : Int) (w : World) :
    Calls Try.prog 20 #[.int .i64 k, .int .i64 a, .int .i64 b] w fun e w' => e = .returned (.tuple #[.int .i64 (sgnQ k a b), .int .i64 (sgnR k a b), .bool (vD k a b)]) ∧ Below w.heap.size w w' := by
  by_cases h : v2 k a b = true
  · obtain ⟨h1, h2, h3, h4, h5, h6, h12⟩ := v2_bd h
    by_cases h0 : b = 0
    · subst h0
      have E1 := Lib.hid (show sgnQ k a 0 = -1 by unfold sgnQ vD; simp)
      have E2 := Lib.hid (show sgnR k a 0 = -1 by unfold sgnR vD; simp)
      have E3 := Lib.hid (show vD k a 0 = false by unfold vD; simp)
      go_enter Try.func20, Try.ntmps20
      go_wp2_with ((go_at_call 56; refine (allValid2_any _ _ _ _ _ (by first | rfl | simp)).mono ?_; rintro e w' ⟨rfl, rfl⟩))
      go_ret3
      exact ⟨ret_tup E1.out.symm E2.out.symm E3.out.symm, below_new1 _ _⟩
    · have hb0 : (b == 0) = false := by simpa using h0
      have hb1 : 1 ≤ b := by omega
      have hd := vD_iff.mpr ⟨h, h0⟩
      have E1 := Lib.hid (show sgnQ k a b = (sgnAt a b k.toNat k.toNat).2 by unfold sgnQ; rw [hd]; rfl)
      have E2 := Lib.hid (show sgnR k a b = if (sgnAt a b k.toNat k.toNat).1 < 0 then (sgnAt a b k.toNat k.toNat).1 + b else (sgnAt a b k.toNat k.toNat).1 by unfold sgnR; rw [hd]; rfl)
      have E3 := Lib.hid hd
      clear h0 hd
      go_enter Try.func20, Try.ntmps20
      go_wp2_with ((go_at_call 56; refine (allValid2_any _ _ _ _ _ (by first | rfl | simp)).mono ?_; rintro e w' ⟨rfl, rfl⟩))
      go_loop [9, 10, 11] (fun r q i => ∃ n : Nat, n ≤ k.toNat ∧ i = .int .i64 (k - 1 - n) ∧ r = .int .i64 (sgnAt a b k.toNat n).1 ∧ q = .int .i64 (sgnAt a b k.toNat n).2) (fun _ _ i => (intOf i + 1).toNat)
      case atStart => exact ⟨0, Nat.zero_le _, by simp, rfl, rfl⟩
      case round =>
        obtain ⟨n, hn, rfl, rfl, rfl⟩ := hrel
        by_cases hlt : n < k.toNat
        · obtain ⟨d1, d2, d3, d4⟩ := sgnAt_bd (a := a) k.toNat hb1 n
          have hp : pw (n : Int) ≤ 4096 := pw_le12 (by omega)
          have ek : ((k.toNat : Nat) : Int) - 1 - n = k - 1 - n := by omega
          have b1 := bt_01 a (k - 1 - n)
          have hs := sgn_succ a b k.toNat n
          rw [ek] at hs
          obtain ⟨r, hr⟩ : ∃ r, (sgnAt a b k.toNat n).1 = r := ⟨_, rfl⟩
          obtain ⟨q, hq⟩ : ∃ q, (sgnAt a b k.toNat n).2 = q := ⟨_, rfl⟩
          rw [hr, hq] at hs
          rw [hr] at d1 d2
          rw [hq] at d3 d4
          rw [hr, hq]
          clear hr hq ek
          have n1 : (0 : Int) ≤ k - 1 - (n : Int) := by omega
          by_cases g0 : 0 ≤ r
          · by_cases g1 : 0 ≤ 2 * r + bt a (k - 1 - n) - b
            · have HS := Lib.hid (hs.1 g0 g1)
              clear hs
              go_wp2_with ((go_at_call 59; refine (bit_any _ _ _ (by omega) (by omega)).mono ?_; rintro e w' ⟨rfl, rfl⟩))
              go_round
              case rel => exact ⟨n + 1, by omega, by congr 1; omega, val_int (HS.out.1.trans (by omega)).symm, val_int (HS.out.2.trans (by omega)).symm⟩
              case measure => simp [intOf]; omega
            · have HS := Lib.hid (hs.2.1 g0 g1)
              clear hs
              go_wp2_with ((go_at_call 59; refine (bit_any _ _ _ (by omega) (by omega)).mono ?_; rintro e w' ⟨rfl, rfl⟩))
              go_round
              case rel => exact ⟨n + 1, by omega, by congr 1; omega, val_int (HS.out.1.trans (by omega)).symm, val_int (HS.out.2.trans (by omega)).symm⟩
              case measure => simp [intOf]; omega
          · by_cases g1 : 0 ≤ 2 * r + bt a (k - 1 - n) + b
            · have HS := Lib.hid (hs.2.2.1 g0 g1)
              clear hs
              go_wp2_with ((go_at_call 59; refine (bit_any _ _ _ (by omega) (by omega)).mono ?_; rintro e w' ⟨rfl, rfl⟩))
              go_round
              case rel => exact ⟨n + 1, by omega, by congr 1; omega, val_int (HS.out.1.trans (by omega)).symm, val_int (HS.out.2.trans (by omega)).symm⟩
              case measure => simp [intOf]; omega
            · have HS := Lib.hid (hs.2.2.2 g0 g1)
              clear hs
              go_wp2_with ((go_at_call 59; refine (bit_any _ _ _ (by omega) (by omega)).mono ?_; rintro e w' ⟨rfl, rfl⟩))
              go_round
              case rel => exact ⟨n + 1, by omega, by congr 1; omega, val_int (HS.out.1.trans (by omega)).symm, val_int (HS.out.2.trans (by omega)).symm⟩
              case measure => simp [intOf]; omega
        · obtain rfl : n = k.toNat := by omega
          obtain ⟨d1, d2, d3, d4⟩ := sgnAt_bd (a := a) k.toNat hb1 k.toNat
          obtain ⟨r, hr⟩ : ∃ r, (sgnAt a b k.toNat k.toNat).1 = r := ⟨_, rfl⟩
          obtain ⟨q, hq⟩ : ∃ q, (sgnAt a b k.toNat k.toNat).2 = q := ⟨_, rfl⟩
          rw [hr] at d1 d2 E2
          rw [hq] at E1
          rw [hr, hq]
          clear hr hq d3 d4
          have n1 : ¬ (0 : Int) ≤ k - 1 - ((k.toNat : Nat) : Int) := by omega
          by_cases g0 : r < 0
          · have HE := Lib.hid (E2.out.trans (if_pos g0))
            clear E2
            go_wp2
            go_ret3
            exact ⟨ret_tup E1.out.symm HE.out.symm E3.out.symm, below_new1 _ _⟩
          · have HE := Lib.hid (E2.out.trans (if_neg g0))
            clear E2
            go_wp2
            go_ret3
            exact ⟨ret_tup E1.out.symm HE.out.symm E3.out.symm, below_new1 _ _⟩
  · have h : v2 k a b = false := by simpa using h
    have E1 := Lib.hid (show sgnQ k a b = -1 by unfold sgnQ vD; rw [h]; rfl)
    have E2 := Lib.hid (show sgnR k a b = -1 by unfold sgnR vD; rw [h]; rfl)
    have E3 := Lib.hid (show vD k a b = false by unfold vD; rw [h]; rfl)
    go_enter Try.func20, Try.ntmps20
    go_wp2_with ((go_at_call 56; refine (allValid2_any _ _ _ _ _ (by first | rfl | simp)).mono ?_; rintro e w' ⟨rfl, rfl⟩))
    go_ret3
    exact ⟨ret_tup E1.out.symm E2.out.symm E3.out.symm, below_new1 _ _⟩
theorem signsS_any (k a b : Int) (w : World) :
    Calls Try.prog 19 #[.int .i64 k, .int .i64 a, .int .i64 b] w fun e w' => e = .returned (.tuple #[.int .i64 (sgnQ k a b), .int .i64 (sgnR k a b), .bool (vD k a b)]) ∧ Below w.heap.size w w' := by
  by_cases h : v2 k a b = true
  · obtain ⟨h1, h2, h3, h4, h5, h6, h12⟩ := v2_bd h
    by_cases h0 : b = 0
    · subst h0
      have E1 := Lib.hid (show sgnQ k a 0 = -1 by unfold sgnQ vD; simp)
      have E2 := Lib.hid (show sgnR k a 0 = -1 by unfold sgnR vD; simp)
      have E3 := Lib.hid (show vD k a 0 = false by unfold vD; simp)
      go_enter Try.func19, Try.ntmps19
      go_wp2_with ((go_at_call 46; refine (both_any _ _ _ _).mono ?_; rintro e w' ⟨rfl, rfl⟩))
      go_ret3
      exact ⟨ret_tup E1.out.symm E2.out.symm E3.out.symm, Below.refl _ _⟩
    · have hb0 : (b == 0) = false := by simpa using h0
      have hb1 : 1 ≤ b := by omega
      have hd := vD_iff.mpr ⟨h, h0⟩
      have E1 := Lib.hid (show sgnQ k a b = (sgnAt a b k.toNat k.toNat).2 by unfold sgnQ; rw [hd]; rfl)
      have E2 := Lib.hid (show sgnR k a b = if (sgnAt a b k.toNat k.toNat).1 < 0 then (sgnAt a b k.toNat k.toNat).1 + b else (sgnAt a b k.toNat k.toNat).1 by unfold sgnR; rw [hd]; rfl)
      have E3 := Lib.hid hd
      clear h0 hd
      go_enter Try.func19, Try.ntmps19
      go_wp2_with ((go_at_call 46; refine (both_any _ _ _ _).mono ?_; rintro e w' ⟨rfl, rfl⟩))
      go_loop [9, 10, 11] (fun r q i => ∃ n : Nat, n ≤ k.toNat ∧ i = .int .i64 (k - 1 - n) ∧ r = .int .i64 (sgnAt a b k.toNat n).1 ∧ q = .int .i64 (sgnAt a b k.toNat n).2) (fun _ _ i => (intOf i + 1).toNat)
      case atStart => exact ⟨0, Nat.zero_le _, by simp, rfl, rfl⟩
      case round =>
        obtain ⟨n, hn, rfl, rfl, rfl⟩ := hrel
        by_cases hlt : n < k.toNat
        · obtain ⟨d1, d2, d3, d4⟩ := sgnAt_bd (a := a) k.toNat hb1 n
          have hp : pw (n : Int) ≤ 4096 := pw_le12 (by omega)
          have ek : ((k.toNat : Nat) : Int) - 1 - n = k - 1 - n := by omega
          have b1 := bt_01 a (k - 1 - n)
          have hs := sgn_succ a b k.toNat n
          rw [ek] at hs
          obtain ⟨r, hr⟩ : ∃ r, (sgnAt a b k.toNat n).1 = r := ⟨_, rfl⟩
          obtain ⟨q, hq⟩ : ∃ q, (sgnAt a b k.toNat n).2 = q := ⟨_, rfl⟩
          rw [hr, hq] at hs
          rw [hr] at d1 d2
          rw [hq] at d3 d4
          rw [hr, hq]
          clear hr hq ek
          have n1 : (0 : Int) ≤ k - 1 - (n : Int) := by omega
          by_cases g0 : 0 ≤ r
          · by_cases g1 : 0 ≤ 2 * r + bt a (k - 1 - n) - b
            · have HS := Lib.hid (hs.1 g0 g1)
              clear hs
              go_wp2_with ((go_at_call 58; refine (l1Bit_any _ _ _ (by omega) (by omega) (by omega)).mono ?_; rintro e w' ⟨rfl, rfl⟩))
              go_round
              case rel => exact ⟨n + 1, by omega, by congr 1; omega, val_int (HS.out.1.trans (by omega)).symm, val_int (HS.out.2.trans (by omega)).symm⟩
              case measure => simp [intOf]; omega
            · have HS := Lib.hid (hs.2.1 g0 g1)
              clear hs
              go_wp2_with ((go_at_call 58; refine (l1Bit_any _ _ _ (by omega) (by omega) (by omega)).mono ?_; rintro e w' ⟨rfl, rfl⟩))
              go_round
              case rel => exact ⟨n + 1, by omega, by congr 1; omega, val_int (HS.out.1.trans (by omega)).symm, val_int (HS.out.2.trans (by omega)).symm⟩
              case measure => simp [intOf]; omega
          · by_cases g1 : 0 ≤ 2 * r + bt a (k - 1 - n) + b
            · have HS := Lib.hid (hs.2.2.1 g0 g1)
              clear hs
              go_wp2_with ((go_at_call 58; refine (l1Bit_any _ _ _ (by omega) (by omega) (by omega)).mono ?_; rintro e w' ⟨rfl, rfl⟩))
              go_round
              case rel => exact ⟨n + 1, by omega, by congr 1; omega, val_int (HS.out.1.trans (by omega)).symm, val_int (HS.out.2.trans (by omega)).symm⟩
              case measure => simp [intOf]; omega
            · have HS := Lib.hid (hs.2.2.2 g0 g1)
              clear hs
              go_wp2_with ((go_at_call 58; refine (l1Bit_any _ _ _ (by omega) (by omega) (by omega)).mono ?_; rintro e w' ⟨rfl, rfl⟩))
              go_round
              case rel => exact ⟨n + 1, by omega, by congr 1; omega, val_int (HS.out.1.trans (by omega)).symm, val_int (HS.out.2.trans (by omega)).symm⟩
              case measure => simp [intOf]; omega
        · obtain rfl : n = k.toNat := by omega
          obtain ⟨d1, d2, d3, d4⟩ := sgnAt_bd (a := a) k.toNat hb1 k.toNat
          obtain ⟨r, hr⟩ : ∃ r, (sgnAt a b k.toNat k.toNat).1 = r := ⟨_, rfl⟩
          obtain ⟨q, hq⟩ : ∃ q, (sgnAt a b k.toNat k.toNat).2 = q := ⟨_, rfl⟩
          rw [hr] at d1 d2 E2
          rw [hq] at E1
          rw [hr, hq]
          clear hr hq d3 d4
          have n1 : ¬ (0 : Int) ≤ k - 1 - ((k.toNat : Nat) : Int) := by omega
          by_cases g0 : r < 0
          · have HE := Lib.hid (E2.out.trans (if_pos g0))
            clear E2
            go_wp2
            go_ret3
            exact ⟨ret_tup E1.out.symm HE.out.symm E3.out.symm, Below.refl _ _⟩
          · have HE := Lib.hid (E2.out.trans (if_neg g0))
            clear E2
            go_wp2
            go_ret3
            exact ⟨ret_tup E1.out.symm HE.out.symm E3.out.symm, Below.refl _ _⟩
  · have h : v2 k a b = false := by simpa using h
    have E1 := Lib.hid (show sgnQ k a b = -1 by unfold sgnQ vD; rw [h]; rfl)
    have E2 := Lib.hid (show sgnR k a b = -1 by unfold sgnR vD; rw [h]; rfl)
    have E3 := Lib.hid (show vD k a b = false by unfold vD; rw [h]; rfl)
    go_enter Try.func19, Try.ntmps19
    go_wp2_with ((go_at_call 46; refine (both_any _ _ _ _).mono ?_; rintro e w' ⟨rfl, rfl⟩))
    go_ret3
    exact ⟨ret_tup E1.out.symm E2.out.symm E3.out.symm, Below.refl _ _⟩
end Go.Proofs.Ythhehbcnpmjicaa