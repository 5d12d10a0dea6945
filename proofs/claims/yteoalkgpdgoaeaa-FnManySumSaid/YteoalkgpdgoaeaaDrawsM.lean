/-
  THE WALK OF THE DRAW OF ManySum: whatever the code says: a width, and a short list of numbers in their range; nothing that was there is written. No condition on the code.
-/
import Derived.Test.YteoalkgpdgoaeaaDrawsB
namespace Go.Proofs.Yteoalkgpdgoaeaa
open Go Go.RowKit Bw
set_option linter.unusedVariables false
def OddRetG (W w : World) (g M : Nat) (e : Ending) (w' : World) : Prop := ∃ b : Bool, e = .returned (.bool b) ∧ St W w' g M ∧ w.grownBy w' (some g)
def NumRetG (lo hi : Int) (W w : World) (g M : Nat) (e : Ending) (w' : World) : Prop := ∃ x : Int, e = .returned (.int .i64 x) ∧ lo ≤ x ∧ x ≤ hi ∧ St W w' g M ∧ w.grownBy w' (some g)
theorem num_retG {lo hi x : Int} {W w w' : World} {g M : Nat} (h0 : lo ≤ x) (h1 : x ≤ hi) (hs : St W w' g M) (hg : w.grownBy w' (some g)) : NumRetG lo hi W w g M (.returned (.int .i64 x)) w' := ⟨x, rfl, h0, h1, hs, hg⟩
theorem odd_retG {b : Bool} {W w w' : World} {g M : Nat} (hs : St W w' g M) (hg : w.grownBy w' (some g)) : OddRetG W w g M (.returned (.bool b)) w' := ⟨b, rfl, hs, hg⟩
theorem oddG_any (n : Int) (W w : World) (g M : Nat) (h : St W w g M) (hM : M ≤ 100000) (h1 : -1000000 ≤ n) (h2 : n ≤ 1000000) :
    Calls Try.prog 90 #[.pointer (some ⟨g, 0, none⟩), .int .i64 n] w fun e w' => OddRetG W w g (M + 1) e w' := by
  by_cases hn : 0 < n
  · go_enter Try.func90, Try.ntmps90
    go_wp2_with fail
    refine (pick_any _ W _ _ M h hM).mono ?_
    rintro e w1 ⟨x, rfl, x0, x1, hs, hg⟩
    go_wp2
    go_ret
    exact odd_retG hs hg
  · go_enter Try.func90, Try.ntmps90
    go_wp2_with fail
    go_ret
    exact odd_retG (h.more (by omega)) (World.grownBy.refl _ _)
set_option maxHeartbeats 400000 in
theorem wordG_lo (k n : Int) (W w : World) (g M : Nat) (h : St W w g M) (hM : M ≤ 90000) (h1 : -1000000 ≤ n) (h2 : n ≤ 1000000) (hk : k < 1) :
    Calls Try.prog 59 #[.pointer (some ⟨g, 0, none⟩), .int .i64 k, .int .i64 n] w fun e w' => NumRetG (-1) 4096 W w g (M + 4) e w' := by
  go_enter Try.func59, Try.ntmps59
  go_wp2_with fail
  refine (oddG_any _ W _ _ M h (by omega) h1 h2).mono ?_
  rintro e w1 ⟨b, rfl, hs, g1⟩
  cases b
  · go_wp2_with fail
    refine (pick_any _ W _ _ (M + 1) hs (by omega)).mono ?_
    rintro e w2 ⟨x, rfl, x0, x1, hs2, g2⟩
    have x1 := x1 (by omega)
    by_cases hx : x = 0
    · have hxb : (x == 0) = true := by simpa using hx
      clear hx
      go_wp2_with fail
      refine (pick_any _ W _ _ (M + 2) (hs2.alloc _) (by omega)).mono ?_
      rintro e w3 ⟨z, rfl, z0, z1, hs3, hg⟩
      have z1 := z1 (by omega)
      obtain ⟨Z, rfl⟩ : ∃ Z : Nat, z = (Z : Int) := ⟨z.toNat, by omega⟩
      obtain ⟨y, hy, y0, y1⟩ := lit_cell [0, 1, 1, 0, 1] _ (by simp) 0 4096 (by simp; try omega) Z (by simp; omega) hg (ne_new hs2.2.1)
      have t1 : y.tmod 2 = y % 2 := Int.tmod_eq_emod_of_nonneg y0
      have m0 := Int.emod_nonneg y (b := 2) (by omega)
      have m1 := Int.emod_lt_of_pos y (b := 2) (by omega)
      go_wp2
      go_ret
      exact num_retG (by omega) (by omega) (hs3.more (by omega)) (g1.trans (g2.trans ((World.grownBy_alloc _ _ _).trans hg)))
    · have hxb : (x == 0) = false := by simpa using hx
      clear hx
      go_wp2_with fail
      refine (pick_any _ W _ _ (M + 2) hs2 (by omega)).mono ?_
      rintro e w3 ⟨y, rfl, y0, y1, hs3, g3⟩
      have y1 := y1 (by omega)
      go_wp2_with fail
      refine (pick_any _ W _ _ (M + 3) hs3 (by omega)).mono ?_
      rintro e w4 ⟨z, rfl, z0, z1, hs4, g4⟩
      have z1 := z1 (by omega)
      have t1 : (y * 16 + z).tmod 2 = (y * 16 + z) % 2 := Int.tmod_eq_emod_of_nonneg (by omega)
      have m0 := Int.emod_nonneg (y * 16 + z) (b := 2) (by omega)
      have m1 := Int.emod_lt_of_pos (y * 16 + z) (b := 2) (by omega)
      go_wp2
      go_ret
      exact num_retG (by omega) (by omega) hs4 (g1.trans (g2.trans (g3.trans g4)))
  · go_wp2_with fail
    refine (pick_any _ W _ _ (M + 1) (hs.alloc _) (by omega)).mono ?_
    rintro e w2 ⟨x, rfl, x0, x1, hs2, hg⟩
    have x1 := x1 (by omega)
    obtain ⟨X, rfl⟩ : ∃ X : Nat, x = (X : Int) := ⟨x.toNat, by omega⟩
    obtain ⟨y, hy, y0, y1⟩ := lit_cell [-1, 2] _ (by simp) (-1) 4096 (by simp; try omega) X (by simp; omega) hg (ne_new hs.2.1)
    go_wp2
    go_ret
    exact num_retG y0 y1 (hs2.more (by omega)) (g1.trans ((World.grownBy_alloc _ _ _).trans hg))
set_option maxHeartbeats 400000 in
theorem wordG_hi (k n : Int) (W w : World) (g M : Nat) (h : St W w g M) (hM : M ≤ 90000) (h1 : -1000000 ≤ n) (h2 : n ≤ 1000000) (hk : 12 < k) :
    Calls Try.prog 59 #[.pointer (some ⟨g, 0, none⟩), .int .i64 k, .int .i64 n] w fun e w' => NumRetG (-1) 4096 W w g (M + 4) e w' := by
  go_enter Try.func59, Try.ntmps59
  go_wp2_with fail
  refine (oddG_any _ W _ _ M h (by omega) h1 h2).mono ?_
  rintro e w1 ⟨b, rfl, hs, g1⟩
  cases b
  · go_wp2_with fail
    refine (pick_any _ W _ _ (M + 1) hs (by omega)).mono ?_
    rintro e w2 ⟨x, rfl, x0, x1, hs2, g2⟩
    have x1 := x1 (by omega)
    by_cases hx : x = 0
    · have hxb : (x == 0) = true := by simpa using hx
      clear hx
      go_wp2_with fail
      refine (pick_any _ W _ _ (M + 2) (hs2.alloc _) (by omega)).mono ?_
      rintro e w3 ⟨z, rfl, z0, z1, hs3, hg⟩
      have z1 := z1 (by omega)
      obtain ⟨Z, rfl⟩ : ∃ Z : Nat, z = (Z : Int) := ⟨z.toNat, by omega⟩
      obtain ⟨y, hy, y0, y1⟩ := lit_cell [0, 4095, 2048, 2047, 1] _ (by simp) 0 4096 (by simp; try omega) Z (by simp; omega) hg (ne_new hs2.2.1)
      have t1 : y.tmod 4096 = y % 4096 := Int.tmod_eq_emod_of_nonneg y0
      have m0 := Int.emod_nonneg y (b := 4096) (by omega)
      have m1 := Int.emod_lt_of_pos y (b := 4096) (by omega)
      go_wp2
      go_ret
      exact num_retG (by omega) (by omega) (hs3.more (by omega)) (g1.trans (g2.trans ((World.grownBy_alloc _ _ _).trans hg)))
    · have hxb : (x == 0) = false := by simpa using hx
      clear hx
      go_wp2_with fail
      refine (pick_any _ W _ _ (M + 2) hs2 (by omega)).mono ?_
      rintro e w3 ⟨y, rfl, y0, y1, hs3, g3⟩
      have y1 := y1 (by omega)
      go_wp2_with fail
      refine (pick_any _ W _ _ (M + 3) hs3 (by omega)).mono ?_
      rintro e w4 ⟨z, rfl, z0, z1, hs4, g4⟩
      have z1 := z1 (by omega)
      have t1 : (y * 16 + z).tmod 4096 = (y * 16 + z) % 4096 := Int.tmod_eq_emod_of_nonneg (by omega)
      have m0 := Int.emod_nonneg (y * 16 + z) (b := 4096) (by omega)
      have m1 := Int.emod_lt_of_pos (y * 16 + z) (b := 4096) (by omega)
      go_wp2
      go_ret
      exact num_retG (by omega) (by omega) hs4 (g1.trans (g2.trans (g3.trans g4)))
  · go_wp2_with fail
    refine (pick_any _ W _ _ (M + 1) (hs.alloc _) (by omega)).mono ?_
    rintro e w2 ⟨x, rfl, x0, x1, hs2, hg⟩
    have x1 := x1 (by omega)
    obtain ⟨X, rfl⟩ : ∃ X : Nat, x = (X : Int) := ⟨x.toNat, by omega⟩
    obtain ⟨y, hy, y0, y1⟩ := lit_cell [-1, 4096] _ (by simp) (-1) 4096 (by simp; try omega) X (by simp; omega) hg (ne_new hs.2.1)
    go_wp2
    go_ret
    exact num_retG y0 y1 (hs2.more (by omega)) (g1.trans ((World.grownBy_alloc _ _ _).trans hg))
set_option maxHeartbeats 400000 in
theorem wordG_12 (n : Int) (W w : World) (g M : Nat) (h : St W w g M) (hM : M ≤ 90000) (h1 : -1000000 ≤ n) (h2 : n ≤ 1000000) :
    Calls Try.prog 59 #[.pointer (some ⟨g, 0, none⟩), .int .i64 12, .int .i64 n] w fun e w' => NumRetG (-1) 4096 W w g (M + 4) e w' := by
  go_enter Try.func59, Try.ntmps59
  go_wp2_with fail
  refine (oddG_any _ W _ _ M h (by omega) h1 h2).mono ?_
  rintro e w1 ⟨b, rfl, hs, g1⟩
  cases b
  · go_wp2_with fail
    refine (pick_any _ W _ _ (M + 1) hs (by omega)).mono ?_
    rintro e w2 ⟨x, rfl, x0, x1, hs2, g2⟩
    have x1 := x1 (by omega)
    by_cases hx : x = 0
    · have hxb : (x == 0) = true := by simpa using hx
      clear hx
      go_wp2_with fail
      refine (pick_any _ W _ _ (M + 2) (hs2.alloc _) (by omega)).mono ?_
      rintro e w3 ⟨z, rfl, z0, z1, hs3, hg⟩
      have z1 := z1 (by omega)
      obtain ⟨Z, rfl⟩ : ∃ Z : Nat, z = (Z : Int) := ⟨z.toNat, by omega⟩
      obtain ⟨y, hy, y0, y1⟩ := lit_cell [0, 4095, 2048, 2047, 1] _ (by simp) 0 4096 (by simp; try omega) Z (by simp; omega) hg (ne_new hs2.2.1)
      have t1 : y.tmod 4096 = y % 4096 := Int.tmod_eq_emod_of_nonneg y0
      have m0 := Int.emod_nonneg y (b := 4096) (by omega)
      have m1 := Int.emod_lt_of_pos y (b := 4096) (by omega)
      go_wp2
      go_ret
      exact num_retG (by omega) (by omega) (hs3.more (by omega)) (g1.trans (g2.trans ((World.grownBy_alloc _ _ _).trans hg)))
    · have hxb : (x == 0) = false := by simpa using hx
      clear hx
      go_wp2_with fail
      refine (pick_any _ W _ _ (M + 2) hs2 (by omega)).mono ?_
      rintro e w3 ⟨y, rfl, y0, y1, hs3, g3⟩
      have y1 := y1 (by omega)
      go_wp2_with fail
      refine (pick_any _ W _ _ (M + 3) hs3 (by omega)).mono ?_
      rintro e w4 ⟨z, rfl, z0, z1, hs4, g4⟩
      have z1 := z1 (by omega)
      have t1 : (y * 16 + z).tmod 4096 = (y * 16 + z) % 4096 := Int.tmod_eq_emod_of_nonneg (by omega)
      have m0 := Int.emod_nonneg (y * 16 + z) (b := 4096) (by omega)
      have m1 := Int.emod_lt_of_pos (y * 16 + z) (b := 4096) (by omega)
      go_wp2
      go_ret
      exact num_retG (by omega) (by omega) hs4 (g1.trans (g2.trans (g3.trans g4)))
  · go_wp2_with fail
    refine (pick_any _ W _ _ (M + 1) (hs.alloc _) (by omega)).mono ?_
    rintro e w2 ⟨x, rfl, x0, x1, hs2, hg⟩
    have x1 := x1 (by omega)
    obtain ⟨X, rfl⟩ : ∃ X : Nat, x = (X : Int) := ⟨x.toNat, by omega⟩
    obtain ⟨y, hy, y0, y1⟩ := lit_cell [-1, 4096] _ (by simp) (-1) 4096 (by simp; try omega) X (by simp; omega) hg (ne_new hs.2.1)
    go_wp2
    go_ret
    exact num_retG y0 y1 (hs2.more (by omega)) (g1.trans ((World.grownBy_alloc _ _ _).trans hg))
set_option maxHeartbeats 400000 in
theorem wordG_mid (k n : Int) (W w : World) (g M : Nat) (h : St W w g M) (hM : M ≤ 90000) (h1 : -1000000 ≤ n) (h2 : n ≤ 1000000) (hk : 1 ≤ k) (hk2 : k < 12) :
    Calls Try.prog 59 #[.pointer (some ⟨g, 0, none⟩), .int .i64 k, .int .i64 n] w fun e w' => NumRetG (-1) 4096 W w g (M + 4) e w' := by
  obtain ⟨A, hA⟩ : ∃ A, pw k = A := ⟨_, rfl⟩
  have hs := shl_one (k := k) (by omega)
  rw [hA] at hs
  have a0 : 2 ≤ A := hA ▸ pw_ge2 (by omega)
  have a1 : A ≤ 4096 := hA ▸ pw_le12 (by omega)
  clear hA
  go_enter Try.func59, Try.ntmps59
  go_wp2_with fail
  refine (oddG_any _ W _ _ M h (by omega) h1 h2).mono ?_
  rintro e w1 ⟨b, rfl, hs, g1⟩
  cases b
  · go_wp2_with fail
    refine (pick_any _ W _ _ (M + 1) hs (by omega)).mono ?_
    rintro e w2 ⟨x, rfl, x0, x1, hs2, g2⟩
    have x1 := x1 (by omega)
    by_cases hx : x = 0
    · have hxb : (x == 0) = true := by simpa using hx
      clear hx
      go_wp2_with fail
      refine (pick_any _ W _ _ (M + 2) (hs2.alloc _) (by omega)).mono ?_
      rintro e w3 ⟨z, rfl, z0, z1, hs3, hg⟩
      have z1 := z1 (by omega)
      obtain ⟨Z, rfl⟩ : ∃ Z : Nat, z = (Z : Int) := ⟨z.toNat, by omega⟩
      obtain ⟨y, hy, y0, y1⟩ := lit_cell [0, A - 1, A / 2, A / 2 - 1, 1] _ (by simp) 0 4096 (by simp; try omega) Z (by simp; omega) hg (ne_new hs2.2.1)
      have t1 : y.tmod A = y % A := Int.tmod_eq_emod_of_nonneg y0
      have m0 := Int.emod_nonneg y (b := A) (by omega)
      have m1 := Int.emod_lt_of_pos y (b := A) (by omega)
      go_wp2
      go_ret
      exact num_retG (by omega) (by omega) (hs3.more (by omega)) (g1.trans (g2.trans ((World.grownBy_alloc _ _ _).trans hg)))
    · have hxb : (x == 0) = false := by simpa using hx
      clear hx
      go_wp2_with fail
      refine (pick_any _ W _ _ (M + 2) hs2 (by omega)).mono ?_
      rintro e w3 ⟨y, rfl, y0, y1, hs3, g3⟩
      have y1 := y1 (by omega)
      go_wp2_with fail
      refine (pick_any _ W _ _ (M + 3) hs3 (by omega)).mono ?_
      rintro e w4 ⟨z, rfl, z0, z1, hs4, g4⟩
      have z1 := z1 (by omega)
      have t1 : (y * 16 + z).tmod A = (y * 16 + z) % A := Int.tmod_eq_emod_of_nonneg (by omega)
      have m0 := Int.emod_nonneg (y * 16 + z) (b := A) (by omega)
      have m1 := Int.emod_lt_of_pos (y * 16 + z) (b := A) (by omega)
      go_wp2
      go_ret
      exact num_retG (by omega) (by omega) hs4 (g1.trans (g2.trans (g3.trans g4)))
  · go_wp2_with fail
    refine (pick_any _ W _ _ (M + 1) (hs.alloc _) (by omega)).mono ?_
    rintro e w2 ⟨x, rfl, x0, x1, hs2, hg⟩
    have x1 := x1 (by omega)
    obtain ⟨X, rfl⟩ : ∃ X : Nat, x = (X : Int) := ⟨x.toNat, by omega⟩
    obtain ⟨y, hy, y0, y1⟩ := lit_cell [-1, A] _ (by simp) (-1) 4096 (by simp; try omega) X (by simp; omega) hg (ne_new hs.2.1)
    go_wp2
    go_ret
    exact num_retG y0 y1 (hs2.more (by omega)) (g1.trans ((World.grownBy_alloc _ _ _).trans hg))
theorem wordG_any (k n : Int) (W w : World) (g M : Nat) (h : St W w g M) (hM : M ≤ 90000) (h1 : -1000000 ≤ n) (h2 : n ≤ 1000000) :
    Calls Try.prog 59 #[.pointer (some ⟨g, 0, none⟩), .int .i64 k, .int .i64 n] w fun e w' => NumRetG (-1) 4096 W w g (M + 4) e w' := by
  by_cases a : k < 1
  · exact wordG_lo k n W w g M h hM h1 h2 a
  · by_cases b : 12 < k
    · exact wordG_hi k n W w g M h hM h1 h2 b
    · by_cases c : k = 12
      · subst c; exact wordG_12 n W w g M h hM h1 h2
      · exact wordG_mid k n W w g M h hM h1 h2 (by omega) (by omega)
theorem drawManySum (a : Option Addr) (len cap : Nat) (zs : List Int) (w : World) (h : IsRow .u8 w a len cap zs) :
    Calls Try.prog 15 #[.slice a len cap] w fun e w' => DrewL1 w e w' := by
  obtain ⟨i0, hi, hz0, hz1, hz2⟩ := info_parts info_int
  go_enter Try.func15, Try.ntmps15
  go_wp2_with fail
  refine (open_any _ _ _ zs _ h).mono ?_
  rintro e w1 ⟨g, rfl, hs⟩
  go_wp2_with fail
  refine (width_any _ w _ _ 0 hs (by omega) (by omega) (by omega)).mono ?_
  rintro e w2 ⟨k, rfl, k0, k1, hs2⟩
  have hB := hs2.1
  have gl := hs2.2.1
  go_wp2_with fail
  refine (pick_any _ w _ _ 2 (hs2.alloc _) (by omega)).mono ?_
  rintro e w3 ⟨c, rfl, a0, b0, hs3, hg3⟩
  have b0 := b0 (by omega)
  go_wp2_with fail
  refine (pick_any _ w _ _ 3 hs3 (by omega)).mono ?_
  rintro e w4 ⟨d, rfl, a1, b1, hs4, hg4⟩
  have b1 := b1 (by omega)
  have O4 : Own w4 (g + 1) (.slice (some ⟨w2.heap.size, 0, none⟩) 0 0) [] := ((Own.made w2 (g + 1) (by omega)).grownG hg3 (by omega)).grownG hg4 (by omega)
  have t1 := IntWalk.i64_quo d 29 (by omega)
  have t2 : 0 ≤ d / 29 ∧ d / 29 ≤ 1 := by omega
  obtain ⟨q, hq⟩ : ∃ q, d / 29 = q := ⟨_, rfl⟩
  rw [hq] at t1 t2
  have t3 := IntWalk.i64_in (q * 16) (by omega)
  obtain ⟨N, hN⟩ : ∃ N : Nat, c + q * 16 = (N : Int) := ⟨(c + q * 16).toNat, by omega⟩
  have t4 := (IntWalk.i64_in (c + q * 16) (by omega)).trans hN
  have hN24 : N ≤ 24 := by omega
  have HO4 := Lib.hid O4
  have HS4 := Lib.hid (hs4.more (N := 4 + 6 * 0) (by omega))
  clear hs hs2 hs3 hs4 hg3 hg4 O4 hq hN
  go_wp2
  go_loopw [6, 7] (fun v i wr => ∃ (n : Nat) (l : List Int), n + l.length ≤ 24 ∧ i = .int .i64 n ∧ Own wr (g + 1) v l ∧ St w wr g (4 + 6 * l.length)) (fun _ i _ => (intOf i).toNat)
  case atStart => exact ⟨N, [], by simp; omega, rfl, HO4.out, HS4.out⟩
  case round =>
    obtain ⟨n, l, hn, rfl, hown, hs⟩ := hrel
    by_cases hlt : (0 : Int) < (n : Int)
    · have HOWN := Lib.hid hown
      clear hown
      go_wp2_with fail
      refine (wordG_any _ _ w _ _ _ hs (by omega) (by omega) (by omega)).mono ?_
      rintro e w7 ⟨x, rfl, p0, q0, hs7, hg7⟩
      have hown := HOWN.out.grownG hg7 (by omega)
      have hg9 := hs7.2.1
      clear hg7
      go_wp2_with (at_builtin; refine wpList_append_own _ rfl _ _ 23 rfl (g + 1) 3 i0 (.int .i64 0) 1 8 Try.underlying23 hi hz0 hz1 hz2 rfl (by decide) _ _ _ rfl (World.ownsRow.alloc hown _) ⟨w7.heap.size, 0, none⟩ 1 1 [.int .i64 x] rfl rfl ?z1 ?z2 ?z3 ?z4 ?z5 ?_)
      case z1 =>
        intro j u hj
        match j, hj with
        | 0, hj => simp at hj; subst hj; first | (simp [Addr.add]; done) | exact cell_new _ _
      case z2 => intro u hu; simp at hu; subst hu; rfl
      case z3 => unfold maxLen; omega
      case z4 => omega
      case z5 => simp; omega
      intro v' w9 hown' hgrow _
      have R := push_st hs7 hown hown' hgrow
      have HR := Lib.hid R
      clear R hown' hgrow hown hs7
      go_wp2
      go_roundw
      case rel => exact ⟨n - 1, l ++ [x], by simp; omega, by go_num, HR.out.1, HR.out.2.more (by simp; omega)⟩
      case measure => simp [intOf]; omega
    · have HS := Lib.hid hs
      have R := Lib.hid hown.rd
      clear hs hown
      go_wp2
      go_ret2
      exact drewL1 ⟨k0, k1⟩ R.out (by omega) HS.out.below
end Go.Proofs.Yteoalkgpdgoaeaa
