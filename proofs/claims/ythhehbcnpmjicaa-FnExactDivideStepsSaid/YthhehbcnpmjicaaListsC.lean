/-
  THE WALKS OF THE FUNCTIONS THAT MAKE LISTS, 2: moved words, digits with a sign, the rests of a division; less by carries. Each is told by one plain function; no condition.
-/
import Derived.Test.YthhehbcnpmjicaaListsB
namespace Go.Proofs.Ythhehbcnpmjicaa
open Go Go.RowKit Bw
set_option linter.unusedVariables false

theorem movedI_any (k a b : Int) (w : World) :
    Calls Try.prog 30 #[.int .i64 k, .int .i64 a, .int .i64 b] w fun e w' => LRet (movedL k a b) w e w' := by
  obtain ⟨i0, hi, hz0, hz1, hz2⟩ := info_parts info_int
  by_cases h : v2 k a b = true
  · obtain ⟨h1, h2, h3, h4, h5, h6, h12⟩ := v2_bd h
    have E := Lib.hid (show tab (movedAt k a b) k.toNat = movedL k a b by unfold movedL; rw [h]; rfl)
    go_enter Try.func30, Try.ntmps30
    go_wp2_with ((go_at_call 56; refine (allValid2_any _ _ _ _ _ (by first | rfl | simp)).mono ?_; rintro e w' ⟨rfl, rfl⟩))
    go_loopw [7, 16] (fun v i wr => ∃ n : Nat, n ≤ k.toNat ∧ i = .int .i64 n ∧ Own wr w.heap.size v (tab (movedAt k a b) n) ∧ Below w.heap.size w wr) (fun _ i _ => k.toNat - (intOf i).toNat)
    case atStart => exact ⟨0, Nat.zero_le _, rfl, Own.nil _ _, below_new1 _ _⟩
    case round =>
      obtain ⟨n, hn, rfl, hown, hnx⟩ := hrel
      have hB := hnx.size
      by_cases hlt : n < k.toNat
      · have n0 : (0 : Int) ≤ (n : Int) := by omega
        have n1 : (n : Int) < k := by omega
        have b1 := bt_01 b n
        have hm : 0 ≤ bt b n * a ∧ bt b n * a ≤ 4096 := by rcases (show bt b n = 0 ∨ bt b n = 1 by omega) with e | e <;> rw [e] <;> omega
        have hs := shl_bd (x := bt b n * a) (k := (n : Int)) (by omega) (by omega) (by omega)
        have hw : IntKind.i64.wrap (bt b n * a * 2 ^ n) = bt b n * a * pw n := by
          have := shl_wrap (x := bt b n * a) (k := (n : Int)) (by omega) (by omega)
          simpa using this
        have HM := Lib.hid (moved_mul (w := k) (a := a) (b := b) n)
        go_wp2_with (first | (at_builtin; refine wpList_append_own _ rfl _ _ 28 rfl (w.heap.size) 3 i0 (.int .i64 0) 1 8 Try.underlying28 hi hz0 hz1 hz2 rfl (by decide) _ _ _ rfl (World.ownsRow.alloc hown _) ⟨wr.heap.size, 0, none⟩ 1 1 [.int .i64 (bt b n * a * pw n % pw k)] rfl rfl ?c1 ?c2 ?c3 ?c4 ?c5 ?_) | (go_at_call 57; refine (cut_any _ _ _ (by omega) (by omega)).mono ?_; rintro e w' ⟨rfl, rfl⟩) | (go_at_call 59; refine (bit_any _ _ _ (by omega) (by omega)).mono ?_; rintro e w' ⟨rfl, rfl⟩))
        case c1 =>
          intro j u hj
          match j, hj with
          | 0, hj => simp at hj; subst hj; first | (simp [Addr.add]; done) | exact cell_new _ _
        case c2 => intro u hu; simp at hu; subst hu; rfl
        case c3 => unfold maxLen; simp only [tab_len]; omega
        case c4 => simp only [tab_len]; omega
        case c5 => have := hnx.size; simp; omega
        intro v' w1 hown' hgrow _
        have R := push_rel hnx hB hown hown' hgrow
        have HR := Lib.hid R
        clear R hown' hgrow hown hnx
        go_wp2
        go_roundw
        case rel => exact ⟨n + 1, by omega, by go_num, tab_push HR.out.1 HM.out.symm, HR.out.2⟩
        case measure => simp [intOf]; omega
      · obtain rfl : n = k.toNat := by omega
        have n1 : ¬ ((k.toNat : Nat) : Int) < k := by omega
        have HO := Lib.hid hown
        clear hown
        go_wp2
        go_ret
        exact lret_eq (lret HO.out hnx) E.out
  · have h : v2 k a b = false := by simpa using h
    have E := Lib.hid (show movedL k a b = [] by unfold movedL; rw [h]; rfl)
    go_enter Try.func30, Try.ntmps30
    go_wp2_with ((go_at_call 56; refine (allValid2_any _ _ _ _ _ (by first | rfl | simp)).mono ?_; rintro e w' ⟨rfl, rfl⟩))
    go_ret
    exact lret_nil E.out (below_new1 _ _)
theorem movedS_any (k a b : Int) (w : World) :
    Calls Try.prog 29 #[.int .i64 k, .int .i64 a, .int .i64 b] w fun e w' => LRet (movedL k a b) w e w' := by
  obtain ⟨i0, hi, hz0, hz1, hz2⟩ := info_parts info_int
  by_cases h : v2 k a b = true
  · obtain ⟨h1, h2, h3, h4, h5, h6, h12⟩ := v2_bd h
    have E := Lib.hid (show tab (movedAt k a b) k.toNat = movedL k a b by unfold movedL; rw [h]; rfl)
    go_enter Try.func29, Try.ntmps29
    go_wp2
    go_loopw [7, 8] (fun v i wr => ∃ n : Nat, n ≤ k.toNat ∧ i = .int .i64 n ∧ Own wr w.heap.size v (tab (movedAt k a b) n) ∧ Below w.heap.size w wr) (fun _ i _ => k.toNat - (intOf i).toNat)
    case atStart => exact ⟨0, Nat.zero_le _, rfl, Own.made _ _ (Nat.le_refl _), below_new1 _ _⟩
    case round =>
      obtain ⟨n, hn, rfl, hown, hnx⟩ := hrel
      have hB := hnx.size
      by_cases hlt : n < k.toNat
      · have n0 : (0 : Int) ≤ (n : Int) := by omega
        have n1 : (n : Int) < k := by omega
        have b1 := bt_01 b n
        have hs := shl_bd (x := a) (k := (n : Int)) (by omega) (by omega) (by omega)
        have hw : IntKind.i64.wrap (a * 2 ^ n) = a * pw n := by
          have := shl_wrap (x := a) (k := (n : Int)) (by omega) (by omega)
          simpa using this
        have m0 := Int.emod_nonneg (a * pw n) (b := pw k) (by omega)
        have m1 := Int.emod_lt_of_pos (a * pw n) (b := pw k) (by omega)
        have hm : 0 ≤ bt b n * (a * pw n % pw k) ∧ bt b n * (a * pw n % pw k) ≤ 4096 := by rcases (show bt b n = 0 ∨ bt b n = 1 by omega) with e | e <;> rw [e] <;> omega
        have hmw := IntWalk.i64_in (bt b n * (a * pw n % pw k)) (by omega)
        go_wp2_with (first | (go_at_call 46; refine (both_any _ _ _ _).mono ?_; rintro e w' ⟨rfl, rfl⟩))
        go_region_law (first | (refine step_append_lies _ (by rfl) _ _ _ (by rfl) (w.heap.size) 3 i0 (.int .i64 0) 1 8 Try.underlying28 hi hz0 hz1 hz2 rfl (by omega) _ _ _ (by rfl) ((World.ownsRow.alloc hown _).drew) ⟨wr.heap.size, 0, none⟩ 1 1 [.int .i64 (bt b n * (a * pw n % pw k))] (by rfl) (by rfl) (fun j u hj => by match j, hj with | 0, hj => (simp at hj; subst hj; exact cell_new wr _)) (by intro u hu; simp at hu; subst hu; rfl) (by omega) (by rw [tab_len]; unfold maxLen; omega) (by rw [tab_len]; omega) (by simp; omega) (wr.heap.size + 1) (by simp) ?_; intro gg cap1 w1 hown' hgrow _ _) | (go_simp; go_at_call 58; refine (l1Bit_any _ _ _ (by omega) (by omega) (by omega)).mono ?_; rintro e w' ⟨rfl, rfl⟩) | (go_simp; go_at_call 47; refine (l1Mod_any _ _ _ (by omega) (by omega)).mono ?_; rintro e w' ⟨rfl, rfl⟩))
        all_goals
          have R := push_rel hnx hB hown hown' (undrew hgrow)
          have HR := Lib.hid R
          clear R hown' hgrow
          go_wp2
          go_roundw
          case rel => exact ⟨n + 1, by omega, by go_num, tab_push HR.out.1 rfl, HR.out.2⟩
          case measure => simp [intOf]; omega
      · obtain rfl : n = k.toNat := by omega
        have n1 : ¬ ((k.toNat : Nat) : Int) < k := by omega
        have HO := Lib.hid hown
        clear hown
        go_wp2
        go_ret
        exact lret_eq (lret HO.out hnx) E.out
  · have h : v2 k a b = false := by simpa using h
    have E := Lib.hid (show movedL k a b = [] by unfold movedL; rw [h]; rfl)
    go_enter Try.func29, Try.ntmps29
    go_wp2
    go_loop [7, 8] (fun v i => v = .slice (some ⟨w.heap.size, 0, none⟩) 0 0 ∧ i = .int .i64 0) (fun _ _ => 0)
    case atStart => exact ⟨rfl, rfl⟩
    case round =>
      obtain ⟨rfl, rfl⟩ := hrel
      by_cases hz : (0 : Int) < k
      · go_wp2_with ((go_at_call 46; refine (both_any _ _ _ _).mono ?_; rintro e w' ⟨rfl, rfl⟩))
        go_ret
        exact lret (E.out ▸ Own.made _ _ (Nat.le_refl _)) (below_new1 _ _)
      · go_wp2_with ((go_at_call 46; refine (both_any _ _ _ _).mono ?_; rintro e w' ⟨rfl, rfl⟩))
        go_ret
        exact lret (E.out ▸ Own.made _ _ (Nat.le_refl _)) (below_new1 _ _)
theorem stepsI_any (k a b : Int) (w : World) :
    Calls Try.prog 34 #[.int .i64 k, .int .i64 a, .int .i64 b] w fun e w' => LRet (stepsL k a b) w e w' := by
  obtain ⟨i0, hi, hz0, hz1, hz2⟩ := info_parts info_int
  by_cases h : v2 k a b = true
  · obtain ⟨h1, h2, h3, h4, h5, h6, h12⟩ := v2_bd h
    by_cases h0 : b = 0
    · subst h0
      have E := Lib.hid (show stepsL k a 0 = [] by unfold stepsL vD; simp)
      go_enter Try.func34, Try.ntmps34
      go_wp2_with ((go_at_call 56; refine (allValid2_any _ _ _ _ _ (by first | rfl | simp)).mono ?_; rintro e w' ⟨rfl, rfl⟩))
      go_ret
      exact lret_nil E.out (below_new1 _ _)
    · have hb0 : (b == 0) = false := by simpa using h0
      have hb1 : 1 ≤ b := by omega
      have E := Lib.hid (show tab (fun i => restAt a b k.toNat (i + 1)) k.toNat = stepsL k a b by unfold stepsL; rw [vD_iff.mpr ⟨h, h0⟩]; rfl)
      clear h0
      go_enter Try.func34, Try.ntmps34
      go_wp2_with ((go_at_call 56; refine (allValid2_any _ _ _ _ _ (by first | rfl | simp)).mono ?_; rintro e w' ⟨rfl, rfl⟩))
      go_loopw [7, 8, 9] (fun v r i wr => ∃ n : Nat, n ≤ k.toNat ∧ i = .int .i64 (k - 1 - n) ∧ r = .int .i64 (restAt a b k.toNat n) ∧ Own wr w.heap.size v (tab (fun i => restAt a b k.toNat (i + 1)) n) ∧ Below w.heap.size w wr) (fun _ _ i _ => (intOf i + 1).toNat)
      case atStart => exact ⟨0, Nat.zero_le _, by simp, rfl, Own.nil _ _, below_new1 _ _⟩
      case round =>
        obtain ⟨n, hn, rfl, rfl, hown, hnx⟩ := hrel
        have hB := hnx.size
        by_cases hlt : n < k.toNat
        · have b1 := bt_01 a ((k.toNat : Int) - 1 - n)
          have hd := restAt_bd (a := a) k.toNat hb1 n
          have ek : ((k.toNat : Nat) : Int) - 1 - n = k - 1 - n := by omega
          rw [ek] at b1
          have hq : restAt a b k.toNat (n + 1) = if b ≤ 2 * restAt a b k.toNat n + bt a (k - 1 - n) then 2 * restAt a b k.toNat n + bt a (k - 1 - n) - b else 2 * restAt a b k.toNat n + bt a (k - 1 - n) := by rw [← ek]; rfl
          obtain ⟨x, hx⟩ : ∃ x, restAt a b k.toNat n = x := ⟨_, rfl⟩
          rw [hx] at hd hq ⊢
          have HX := Lib.hid hx
          clear hx ek
          have n0 : (0 : Int) ≤ (n : Int) := by omega
          have n1 : (0 : Int) ≤ k - 1 - (n : Int) := by omega
          by_cases hge : b ≤ 2 * x + bt a (k - 1 - n)
          · rw [if_pos hge] at hq
            have HQ := Lib.hid hq
            clear hq
            go_wp2_with (first | (at_builtin; refine wpList_append_own _ rfl _ _ 28 rfl (w.heap.size) 3 i0 (.int .i64 0) 1 8 Try.underlying28 hi hz0 hz1 hz2 rfl (by decide) _ _ _ rfl (World.ownsRow.alloc hown _) ⟨wr.heap.size, 0, none⟩ 1 1 [.int .i64 (2 * x + bt a (k - 1 - n) - b)] rfl rfl ?c1 ?c2 ?c3 ?c4 ?c5 ?_) | (go_at_call 59; refine (bit_any _ _ _ (by omega) (by omega)).mono ?_; rintro e w' ⟨rfl, rfl⟩))
            case c1 =>
              intro j u hj
              match j, hj with
              | 0, hj => simp at hj; subst hj; first | (simp [Addr.add]; done) | exact cell_new _ _
            case c2 => intro u hu; simp at hu; subst hu; rfl
            case c3 => unfold maxLen; simp only [tab_len]; omega
            case c4 => simp only [tab_len]; omega
            case c5 => have := hnx.size; simp; omega
            intro v' w1 hown' hgrow _
            have R := push_rel hnx hB hown hown' hgrow
            have HR := Lib.hid R
            clear R hown' hgrow hown hnx
            go_wp2
            go_roundw
            case rel => exact ⟨n + 1, by omega, by congr 1; omega, by rw [HQ.out], tab_push HR.out.1 HQ.out, HR.out.2⟩
            case measure => simp [intOf]; omega
          · rw [if_neg hge] at hq
            have HQ := Lib.hid hq
            clear hq
            go_wp2_with (first | (at_builtin; refine wpList_append_own _ rfl _ _ 28 rfl (w.heap.size) 3 i0 (.int .i64 0) 1 8 Try.underlying28 hi hz0 hz1 hz2 rfl (by decide) _ _ _ rfl (World.ownsRow.alloc hown _) ⟨wr.heap.size, 0, none⟩ 1 1 [.int .i64 (2 * x + bt a (k - 1 - n))] rfl rfl ?d1 ?d2 ?d3 ?d4 ?d5 ?_) | (go_at_call 59; refine (bit_any _ _ _ (by omega) (by omega)).mono ?_; rintro e w' ⟨rfl, rfl⟩))
            case d1 =>
              intro j u hj
              match j, hj with
              | 0, hj => simp at hj; subst hj; first | (simp [Addr.add]; done) | exact cell_new _ _
            case d2 => intro u hu; simp at hu; subst hu; rfl
            case d3 => unfold maxLen; simp only [tab_len]; omega
            case d4 => simp only [tab_len]; omega
            case d5 => have := hnx.size; simp; omega
            intro v' w1 hown' hgrow _
            have R := push_rel hnx hB hown hown' hgrow
            have HR := Lib.hid R
            clear R hown' hgrow hown hnx
            go_wp2
            go_roundw
            case rel => exact ⟨n + 1, by omega, by congr 1; omega, by rw [HQ.out], tab_push HR.out.1 HQ.out, HR.out.2⟩
            case measure => simp [intOf]; omega
        · obtain rfl : n = k.toNat := by omega
          have n1 : ¬ (0 : Int) ≤ k - 1 - ((k.toNat : Nat) : Int) := by omega
          have HO := Lib.hid hown
          clear hown
          go_wp2
          go_ret
          exact lret_eq (lret HO.out hnx) E.out
  · have h : v2 k a b = false := by simpa using h
    have E := Lib.hid (show stepsL k a b = [] by unfold stepsL vD; rw [h]; rfl)
    go_enter Try.func34, Try.ntmps34
    go_wp2_with ((go_at_call 56; refine (allValid2_any _ _ _ _ _ (by first | rfl | simp)).mono ?_; rintro e w' ⟨rfl, rfl⟩))
    go_ret
    exact lret_nil E.out (below_new1 _ _)
theorem stepsS_any (k a b : Int) (w : World) :
    Calls Try.prog 33 #[.int .i64 k, .int .i64 a, .int .i64 b] w fun e w' => LRet (stepsL k a b) w e w' := by
  obtain ⟨i0, hi, hz0, hz1, hz2⟩ := info_parts info_int
  by_cases h : v2 k a b = true
  · obtain ⟨h1, h2, h3, h4, h5, h6, h12⟩ := v2_bd h
    by_cases h0 : b = 0
    · subst h0
      have E := Lib.hid (show stepsL k a 0 = [] by unfold stepsL vD; simp)
      go_enter Try.func33, Try.ntmps33
      go_wp2
      go_loopw [7, 8, 9] (fun v r i wr => v = .slice (some ⟨w.heap.size, 0, none⟩) 0 0 ∧ wr = w.alloc (.cells #[] 3) ∧ ∃ j : Int, i = .int .i64 j) (fun _ _ i _ => 0)
      case atStart => exact ⟨rfl, rfl, _, rfl⟩
      case round =>
        obtain ⟨rfl, rfl, j, rfl⟩ := hrel
        by_cases hz : (0 : Int) ≤ j
        · go_wp2_with ((go_at_call 46; refine (both_any _ _ _ _).mono ?_; rintro e w' ⟨rfl, rfl⟩))
          go_ret
          exact lret (E.out ▸ Own.made _ _ (Nat.le_refl _)) (below_new1 _ _)
        · go_wp2_with ((go_at_call 46; refine (both_any _ _ _ _).mono ?_; rintro e w' ⟨rfl, rfl⟩))
          go_ret
          exact lret (E.out ▸ Own.made _ _ (Nat.le_refl _)) (below_new1 _ _)
    · have hb0 : (b == 0) = false := by simpa using h0
      have hb1 : 1 ≤ b := by omega
      have E := Lib.hid (show tab (fun i => restAt a b k.toNat (i + 1)) k.toNat = stepsL k a b by unfold stepsL; rw [vD_iff.mpr ⟨h, h0⟩]; rfl)
      clear h0
      go_enter Try.func33, Try.ntmps33
      go_wp2
      go_loopw [7, 8, 9] (fun v r i wr => ∃ n : Nat, n ≤ k.toNat ∧ i = .int .i64 (k - 1 - n) ∧ r = .int .i64 (restAt a b k.toNat n) ∧ Own wr w.heap.size v (tab (fun i => restAt a b k.toNat (i + 1)) n) ∧ Below w.heap.size w wr) (fun _ _ i _ => (intOf i + 1).toNat)
      case atStart => exact ⟨0, Nat.zero_le _, by simp, rfl, Own.made _ _ (Nat.le_refl _), below_new1 _ _⟩
      case round =>
        obtain ⟨n, hn, rfl, rfl, hown, hnx⟩ := hrel
        have hB := hnx.size
        by_cases hlt : n < k.toNat
        · have b1 := bt_01 a ((k.toNat : Int) - 1 - n)
          have hd := restAt_bd (a := a) k.toNat hb1 n
          have ek : ((k.toNat : Nat) : Int) - 1 - n = k - 1 - n := by omega
          rw [ek] at b1
          have hq : restAt a b k.toNat (n + 1) = if b ≤ 2 * restAt a b k.toNat n + bt a (k - 1 - n) then 2 * restAt a b k.toNat n + bt a (k - 1 - n) - b else 2 * restAt a b k.toNat n + bt a (k - 1 - n) := by rw [← ek]; rfl
          obtain ⟨x, hx⟩ : ∃ x, restAt a b k.toNat n = x := ⟨_, rfl⟩
          rw [hx] at hd hq ⊢
          have HX := Lib.hid hx
          clear hx ek
          have n0 : (0 : Int) ≤ (n : Int) := by omega
          have n1 : (0 : Int) ≤ k - 1 - (n : Int) := by omega
          by_cases hge : b ≤ 2 * x + bt a (k - 1 - n)
          · rw [if_pos hge] at hq
            have HQ := Lib.hid hq
            clear hq
            go_wp2_with (first | (at_builtin; refine wpList_append_own _ rfl _ _ 28 rfl (w.heap.size) 3 i0 (.int .i64 0) 1 8 Try.underlying28 hi hz0 hz1 hz2 rfl (by decide) _ _ _ rfl (World.ownsRow.alloc hown _) ⟨wr.heap.size, 0, none⟩ 1 1 [.int .i64 (2 * x + bt a (k - 1 - n) - b)] rfl rfl ?c1 ?c2 ?c3 ?c4 ?c5 ?_) | (go_at_call 58; refine (l1Bit_any _ _ _ (by omega) (by omega) (by omega)).mono ?_; rintro e w' ⟨rfl, rfl⟩) | (go_at_call 46; refine (both_any _ _ _ _).mono ?_; rintro e w' ⟨rfl, rfl⟩))
            case c1 =>
              intro j u hj
              match j, hj with
              | 0, hj => simp at hj; subst hj; first | (simp [Addr.add]; done) | exact cell_new _ _
            case c2 => intro u hu; simp at hu; subst hu; rfl
            case c3 => unfold maxLen; simp only [tab_len]; omega
            case c4 => simp only [tab_len]; omega
            case c5 => have := hnx.size; simp; omega
            intro v' w1 hown' hgrow _
            have R := push_rel hnx hB hown hown' hgrow
            have HR := Lib.hid R
            clear R hown' hgrow hown hnx
            go_wp2
            go_roundw
            case rel => exact ⟨n + 1, by omega, by congr 1; omega, by rw [HQ.out], tab_push HR.out.1 HQ.out, HR.out.2⟩
            case measure => simp [intOf]; omega
          · rw [if_neg hge] at hq
            have HQ := Lib.hid hq
            clear hq
            go_wp2_with (first | (at_builtin; refine wpList_append_own _ rfl _ _ 28 rfl (w.heap.size) 3 i0 (.int .i64 0) 1 8 Try.underlying28 hi hz0 hz1 hz2 rfl (by decide) _ _ _ rfl (World.ownsRow.alloc hown _) ⟨wr.heap.size, 0, none⟩ 1 1 [.int .i64 (2 * x + bt a (k - 1 - n))] rfl rfl ?d1 ?d2 ?d3 ?d4 ?d5 ?_) | (go_at_call 58; refine (l1Bit_any _ _ _ (by omega) (by omega) (by omega)).mono ?_; rintro e w' ⟨rfl, rfl⟩) | (go_at_call 46; refine (both_any _ _ _ _).mono ?_; rintro e w' ⟨rfl, rfl⟩))
            case d1 =>
              intro j u hj
              match j, hj with
              | 0, hj => simp at hj; subst hj; first | (simp [Addr.add]; done) | exact cell_new _ _
            case d2 => intro u hu; simp at hu; subst hu; rfl
            case d3 => unfold maxLen; simp only [tab_len]; omega
            case d4 => simp only [tab_len]; omega
            case d5 => have := hnx.size; simp; omega
            intro v' w1 hown' hgrow _
            have R := push_rel hnx hB hown hown' hgrow
            have HR := Lib.hid R
            clear R hown' hgrow hown hnx
            go_wp2
            go_roundw
            case rel => exact ⟨n + 1, by omega, by congr 1; omega, by rw [HQ.out], tab_push HR.out.1 HQ.out, HR.out.2⟩
            case measure => simp [intOf]; omega
        · obtain rfl : n = k.toNat := by omega
          have n1 : ¬ (0 : Int) ≤ k - 1 - ((k.toNat : Nat) : Int) := by omega
          have HO := Lib.hid hown
          clear hown
          go_wp2
          go_ret
          exact lret_eq (lret HO.out hnx) E.out
  · have h : v2 k a b = false := by simpa using h
    have E := Lib.hid (show stepsL k a b = [] by unfold stepsL vD; rw [h]; rfl)
    go_enter Try.func33, Try.ntmps33
    go_wp2
    go_loopw [7, 8, 9] (fun v r i wr => v = .slice (some ⟨w.heap.size, 0, none⟩) 0 0 ∧ wr = w.alloc (.cells #[] 3) ∧ ∃ j : Int, i = .int .i64 j) (fun _ _ i _ => 0)
    case atStart => exact ⟨rfl, rfl, _, rfl⟩
    case round =>
      obtain ⟨rfl, rfl, j, rfl⟩ := hrel
      by_cases hz : (0 : Int) ≤ j
      · go_wp2_with ((go_at_call 46; refine (both_any _ _ _ _).mono ?_; rintro e w' ⟨rfl, rfl⟩))
        go_ret
        exact lret (E.out ▸ Own.made _ _ (Nat.le_refl _)) (below_new1 _ _)
      · go_wp2_with ((go_at_call 46; refine (both_any _ _ _ _).mono ?_; rintro e w' ⟨rfl, rfl⟩))
        go_ret
        exact lret (E.out ▸ Own.made _ _ (Nat.le_refl _)) (below_new1 _ _)
def low (s : Int) (n : Nat) : Int := if n = 0 then 0 else bt s ((2 * n - 1 : Nat) : Int)
theorem low_01 (s : Int) (n : Nat) : 0 ≤ low s n ∧ low s n ≤ 1 := by unfold low; split; omega; exact bt_01 _ _
theorem low_succ (s : Int) (n : Nat) : low s (n + 1) = bt s ((2 * n + 1 : Nat) : Int) := by unfold low; rw [if_neg (by omega)]; congr 1
theorem boothI_any (k x : Int) (w : World) :
    Calls Try.prog 36 #[.int .i64 k, .int .i64 x] w fun e w' => LRet (boothL k x) w e w' := by
  obtain ⟨i0, hi, hz0, hz1, hz2⟩ := info_parts info_int
  by_cases h : vX k x = true
  · obtain ⟨h1, h2, h3, h4, h12⟩ := vX_bd h
    have E := Lib.hid (show tab (digit (sg k x)) ((k.toNat + 1) / 2) = boothL k x by unfold boothL; rw [h]; rfl)
    obtain ⟨s, hs⟩ : ∃ s, sg k x = s := ⟨_, rfl⟩
    rw [hs] at E
    go_enter Try.func36, Try.ntmps36
    go_wp2_with (first | (go_at_call 64; refine (validI_any _ _ _).mono ?_; rintro e w' ⟨rfl, rfl⟩) | (go_at_call 51; refine (signed_any _ _ _ (by assumption)).mono ?_; rintro e w' ⟨rfl, rfl⟩))
    go_loopw [6, 7, 8] (fun v l i wr => ∃ n : Nat, n ≤ (k.toNat + 1) / 2 ∧ i = .int .i64 ((2 * n : Nat) : Int) ∧ l = .int .i64 (low s n) ∧ Own wr w.heap.size v (tab (digit s) n) ∧ Below w.heap.size w wr) (fun _ _ i _ => k.toNat + 1 - (intOf i).toNat)
    case atStart => exact ⟨0, Nat.zero_le _, rfl, rfl, Own.nil _ _, Below.refl _ _⟩
    case round =>
      obtain ⟨n, hn, rfl, rfl, hown, hnx⟩ := hrel
      have hB := hnx.size
      by_cases hlt : n < (k.toNat + 1) / 2
      · have e2 : ((2 * n + 1 : Nat) : Int) = ((2 * n : Nat) : Int) + 1 := by omega
        have hq : digit s n = bt s ((2 * n : Nat) : Int) + low s n - 2 * bt s (((2 * n : Nat) : Int) + 1) := by rw [← e2]; rfl
        have hl := low_succ s n
        rw [e2] at hl
        clear e2
        obtain ⟨m, hm⟩ : ∃ m : Nat, 2 * n = m := ⟨_, rfl⟩
        rw [hm] at hq hl
        obtain ⟨y, hy⟩ : ∃ y, low s n = y := ⟨_, rfl⟩
        have b3 := low_01 s n
        rw [hy] at hq b3 ⊢
        have b1 := bt_01 s (m : Int)
        have b2 := bt_01 s ((m : Int) + 1)
        have n0 : (0 : Int) ≤ (m : Int) := by omega
        have n1 : (m : Int) < k := by omega
        have n2 : (m : Int) ≤ 12 := by omega
        have HQ := Lib.hid hq
        have HS := Lib.hid hl
        have HM := Lib.hid hm
        rw [hm]
        clear hq hl hm hy
        go_wp2_with (first | (at_builtin; refine wpList_append_own _ rfl _ _ 28 rfl (w.heap.size) 3 i0 (.int .i64 0) 1 8 Try.underlying28 hi hz0 hz1 hz2 rfl (by decide) _ _ _ rfl (World.ownsRow.alloc hown _) ⟨wr.heap.size, 0, none⟩ 1 1 [.int .i64 (bt s m + y - 2 * bt s ((m : Int) + 1))] rfl rfl ?c1 ?c2 ?c3 ?c4 ?c5 ?_) | (go_at_call 59; refine (bit_any _ _ _ (by omega) (by omega)).mono ?_; rintro e w' ⟨rfl, rfl⟩))
        case c1 =>
          intro j u hj
          match j, hj with
          | 0, hj => simp at hj; subst hj; first | (simp [Addr.add]; done) | exact cell_new _ _
        case c2 => intro u hu; simp at hu; subst hu; rfl
        case c3 => unfold maxLen; simp only [tab_len]; omega
        case c4 => simp only [tab_len]; omega
        case c5 => have := hnx.size; simp; omega
        intro v' w1 hown' hgrow _
        have R := push_rel hnx hB hown hown' hgrow
        have HR := Lib.hid R
        clear R hown' hgrow hown hnx
        go_wp2_with ((go_at_call 59; refine (bit_any _ _ _ (by omega) (by omega)).mono ?_; rintro e w' ⟨rfl, rfl⟩))
        go_roundw
        case rel => exact ⟨n + 1, by omega, by have := HM.out; congr 1; omega, by rw [HS.out], tab_push HR.out.1 HQ.out, HR.out.2⟩
        case measure => simp [intOf]; omega
      · obtain rfl : n = (k.toNat + 1) / 2 := by omega
        have n1 : ¬ ((2 * ((k.toNat + 1) / 2) : Nat) : Int) < k := by omega
        obtain ⟨m, hm⟩ : ∃ m : Nat, 2 * ((k.toNat + 1) / 2) = m := ⟨_, rfl⟩
        rw [hm] at n1 ⊢
        have HO := Lib.hid hown
        clear hown hm
        go_wp2
        go_ret
        exact lret_eq (lret HO.out hnx) E.out
  · have h : vX k x = false := by simpa using h
    have E := Lib.hid (show boothL k x = [] by unfold boothL; rw [h]; rfl)
    go_enter Try.func36, Try.ntmps36
    go_wp2_with ((go_at_call 64; refine (validI_any _ _ _).mono ?_; rintro e w' ⟨rfl, rfl⟩))
    go_ret
    exact lret_nil E.out (Below.refl _ _)
theorem bt_pw1 (x k : Int) : x / pw k % pw 1 = bt x k := rfl
theorem boothS_any (k x : Int) (w : World) :
    Calls Try.prog 35 #[.int .i64 k, .int .i64 x] w fun e w' => LRet (boothL k x) w e w' := by
  obtain ⟨i0, hi, hz0, hz1, hz2⟩ := info_parts info_int
  by_cases h : vX k x = true
  · obtain ⟨h1, h2, h3, h4, h12⟩ := vX_bd h
    have E := Lib.hid (show tab (digit (sg k x)) ((k.toNat + 1) / 2) = boothL k x by unfold boothL; rw [h]; rfl)
    have so := signedOf_eq h
    obtain ⟨s, hs⟩ : ∃ s, sg k x = s := ⟨_, rfl⟩
    rw [hs] at E so
    clear hs
    go_enter Try.func35, Try.ntmps35
    go_wp2_with ((go_at_call 48; refine (signedOfS_any _ _ _).mono ?_; rintro e w' ⟨rfl, rfl⟩))
    go_loopw [5, 7] (fun v i wr => ∃ n : Nat, n ≤ (k.toNat + 1) / 2 ∧ i = .int .i64 ((2 * n : Nat) : Int) ∧ Own wr w.heap.size v (tab (digit s) n) ∧ Below w.heap.size w wr) (fun _ i _ => k.toNat + 1 - (intOf i).toNat)
    case atStart => exact ⟨0, Nat.zero_le _, rfl, Own.made _ _ (Nat.le_refl _), below_new1 _ _⟩
    case round =>
      obtain ⟨n, hn, rfl, hown, hnx⟩ := hrel
      have hB := hnx.size
      by_cases hlt : n < (k.toNat + 1) / 2
      · by_cases hz : n = 0
        · subst hz
          have HQ := Lib.hid (show digit s 0 = bt s 0 + 0 - 2 * bt s 1 from rfl)
          have b1 := bt_01 s 0
          have b2 := bt_01 s 1
          have r1 : s % pw 1 = bt s 0 := by show _ = s / pw 0 % 2; rw [pw_0, Int.ediv_one]; rfl
          have r2 : s / 2 % pw 1 = bt s 1 := rfl
          have n1 : (0 : Int) < k := by omega
          have e1 := IntWalk.i64_in (2 * bt s 1) (by omega)
          have e2 := IntWalk.i64_in (bt s 0 - 2 * bt s 1) (by omega)
          have e3 := IntWalk.i64_in 1 (by omega)
          have e4 := IntWalk.i64_in (bt s 0) (by omega)
          go_wp2_with (first | (go_at_call 52; refine (validS_any _ _ _).mono ?_; rintro e w' ⟨rfl, rfl⟩) | (go_at_call 47; refine (l1Mod_any _ _ _ (by omega) (by omega)).mono ?_; rintro e w' ⟨rfl, rfl⟩))
          go_region_law (first | (refine step_append_lies _ (by rfl) _ _ _ (by rfl) (w.heap.size) 3 i0 (.int .i64 0) 1 8 Try.underlying28 hi hz0 hz1 hz2 rfl (by omega) _ _ _ (by rfl) ((World.ownsRow.alloc hown _).drew) ⟨wr.heap.size, 0, none⟩ 1 1 [.int .i64 (bt s 0 - 2 * bt s 1)] (by rfl) (by rfl) (fun j u hj => by match j, hj with | 0, hj => (simp at hj; subst hj; exact cell_new wr _)) (by intro u hu; simp at hu; subst hu; rfl) (by omega) (by rw [tab_len]; unfold maxLen; omega) (by rw [tab_len]; omega) (by simp; omega) (wr.heap.size + 1) (by simp) ?_; intro gg cap1 w1 hown' hgrow _ _) | (go_simp; go_at_call 47; refine (l1Mod_any _ _ _ (by omega) (by omega)).mono ?_; rintro e w' ⟨rfl, rfl⟩))
          all_goals
            have R := push_rel hnx hB hown hown' (undrew hgrow)
            have HR := Lib.hid R
            clear R hown' hgrow
            go_wp2
            go_roundw
            case rel => exact ⟨0 + 1, by omega, rfl, tab_push HR.out.1 (by rw [HQ.out]; omega), HR.out.2⟩
            case measure => simp [intOf]; omega
        · obtain ⟨m, hm⟩ : ∃ m : Nat, 2 * n = m + 1 := ⟨2 * n - 1, by omega⟩
          have hq : digit s n = bt s ((m : Int) + 1) + bt s m - 2 * bt s ((m : Int) + 1 + 1) := by
            unfold digit; rw [if_neg hz, hm, show m + 1 - 1 = m by omega]; rfl
          have HQ := Lib.hid hq
          have HM := Lib.hid hm
          have b0 := bt_01 s (m : Int)
          have b1 := bt_01 s ((m : Int) + 1)
          have b2 := bt_01 s ((m : Int) + 1 + 1)
          have r0 : s / 2 ^ m % pw 1 = bt s m := rfl
          have r1 : s / 2 ^ (m + 1) % pw 1 = bt s ((m : Int) + 1) := rfl
          have r2 : s / 2 ^ (m + 1 + 1) % pw 1 = bt s ((m : Int) + 1 + 1) := rfl
          have r3 : s / 2 ^ ((m : Int) + 1 + 1).toNat % pw 1 = bt s ((m : Int) + 1 + 1) := rfl
          have r4 : s / 2 ^ ((m : Int) + 1).toNat % pw 1 = bt s ((m : Int) + 1) := rfl
          have n0 : (0 : Int) ≤ (m : Int) := by omega
          have n1 : (m : Int) + 1 < k := by omega
          have n2 : (m : Int) ≤ 12 := by omega
          have n3 : (0 : Int) < (m : Int) + 1 := by omega
          have e1 := IntWalk.i64_in (2 * bt s ((m : Int) + 1 + 1)) (by omega)
          have e2 := IntWalk.i64_in (bt s ((m : Int) + 1) + bt s m) (by omega)
          have e3 := IntWalk.i64_in (bt s ((m : Int) + 1) + bt s m - 2 * bt s ((m : Int) + 1 + 1)) (by omega)
          have e4 := IntWalk.i64_in ((m : Int) + 1 + 1) (by omega)
          rw [hm]
          clear hq hm hz
          go_wp2_with (first | (go_at_call 52; refine (validS_any _ _ _).mono ?_; rintro e w' ⟨rfl, rfl⟩) | (go_at_call 47; refine (l1Mod_any _ _ _ (by omega) (by omega)).mono ?_; rintro e w' ⟨rfl, rfl⟩))
          go_region_law (first | (refine step_append_lies _ (by rfl) _ _ _ (by rfl) (w.heap.size) 3 i0 (.int .i64 0) 1 8 Try.underlying28 hi hz0 hz1 hz2 rfl (by omega) _ _ _ (by rfl) ((World.ownsRow.alloc hown _).drew) ⟨wr.heap.size, 0, none⟩ 1 1 [.int .i64 (bt s ((m : Int) + 1) + bt s m - 2 * bt s ((m : Int) + 1 + 1))] (by rfl) (by rfl) (fun j u hj => by match j, hj with | 0, hj => (simp at hj; subst hj; exact cell_new wr _)) (by intro u hu; simp at hu; subst hu; rfl) (by omega) (by rw [tab_len]; unfold maxLen; omega) (by rw [tab_len]; omega) (by simp; omega) (wr.heap.size + 1) (by simp) ?_; intro gg cap1 w1 hown' hgrow _ _) | (go_simp; go_at_call 47; refine (l1Mod_any _ _ _ (by omega) (by omega)).mono ?_; rintro e w' ⟨rfl, rfl⟩))
          all_goals
            have R := push_rel hnx hB hown hown' (undrew hgrow)
            have HR := Lib.hid R
            clear R hown' hgrow
            go_wp2
            go_roundw
            case rel => exact ⟨n + 1, by omega, by have := HM.out; congr 1; omega, tab_push HR.out.1 HQ.out, HR.out.2⟩
            case measure => simp [intOf]; omega
      · obtain rfl : n = (k.toNat + 1) / 2 := by omega
        have n1 : ¬ ((2 * ((k.toNat + 1) / 2) : Nat) : Int) < k := by omega
        obtain ⟨m, hm⟩ : ∃ m : Nat, 2 * ((k.toNat + 1) / 2) = m := ⟨_, rfl⟩
        rw [hm] at n1 ⊢
        have HO := Lib.hid hown
        clear hown hm
        go_wp2
        go_ret
        exact lret_eq (lret HO.out hnx) E.out
  · have h : vX k x = false := by simpa using h
    have E := Lib.hid (show boothL k x = [] by unfold boothL; rw [h]; rfl)
    go_enter Try.func35, Try.ntmps35
    go_wp2_with ((go_at_call 48; refine (signedOfS_any _ _ _).mono ?_; rintro e w' ⟨rfl, rfl⟩))
    go_loop [5, 7] (fun v i => v = .slice (some ⟨w.heap.size, 0, none⟩) 0 0 ∧ i = .int .i64 0) (fun _ _ => 0)
    case atStart => exact ⟨rfl, rfl⟩
    case round =>
      obtain ⟨rfl, rfl⟩ := hrel
      by_cases hz : (0 : Int) < k
      · go_wp2_with ((go_at_call 52; refine (validS_any _ _ _).mono ?_; rintro e w' ⟨rfl, rfl⟩))
        go_ret
        exact lret (E.out ▸ Own.made _ _ (Nat.le_refl _)) (below_new1 _ _)
      · go_wp2_with ((go_at_call 52; refine (validS_any _ _ _).mono ?_; rintro e w' ⟨rfl, rfl⟩))
        go_ret
        exact lret (E.out ▸ Own.made _ _ (Nat.le_refl _)) (below_new1 _ _)
end Go.Proofs.Ythhehbcnpmjicaa