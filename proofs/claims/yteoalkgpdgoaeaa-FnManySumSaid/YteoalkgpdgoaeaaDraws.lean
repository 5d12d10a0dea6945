/-
  THE WALKS OF THE REFERENCE'S DRAWS, 2: a width and words, places, and the draw of each statement. Whatever the code says: numbers; nothing that was there is written. No condition on the code.
-/
import Derived.Test.YteoalkgpdgoaeaaDraw
namespace Go.Proofs.Yteoalkgpdgoaeaa
open Go Go.RowKit Bw
set_option linter.unusedVariables false
theorem open_any (a : Option Addr) (len cap : Nat) (zs : List Int) (w : World) (h : IsRow .u8 w a len cap zs) :
    Calls Try.prog 56 #[.slice a len cap] w fun e w' => ∃ g, e = .returned (.pointer (some ⟨g, 0, none⟩)) ∧ St w w' g 0 := by
  obtain ⟨hl, hc, hr⟩ := h.open_
  have key : ∀ n c : Nat, n ≤ len → n ≤ 2000 → St w (w.alloc (.cells #[.slice a n c, .int .i64 0] 62)) w.heap.size 0 := by
    intro n c hn hn2
    refine ⟨Nat.le_refl _, by simp, (Below.refl _ _).alloc (Nat.le_refl _) _, ?_, a, n, c, 0, ?_, ?_, Nat.le_refl _, hn2, ?_⟩
    · simp [World.frozen?_alloc_at]
    · simp
    · simp
    · rcases hr with h0 | ⟨b, off, ha, hb, hcell⟩
      · exact .inl (by omega)
      · exact .inr ⟨b, off, ha, hb, fun j hj => ⟨_, (hcell j (by omega)).1, (wf_u8 (hcell j (by omega)).2).1, (wf_u8 (hcell j (by omega)).2).2⟩⟩
  have K := Lib.hid key
  clear key hr h
  unfold maxLen at hc
  by_cases hbig : (2000 : Int) < (len : Int)
  · have h2 : 2000 ≤ cap := by omega
    have h3 : (2000 : Int) ≤ (cap : Int) := by omega
    go_enter Try.func56, Try.ntmps56
    go_wp2
    go_ret
    exact ⟨_, rfl, K.out 2000 _ (by omega) (by omega)⟩
  · go_enter Try.func56, Try.ntmps56
    go_wp2
    go_ret
    exact ⟨_, rfl, K.out len _ (by omega) (by omega)⟩

/-- Two or three numbers that a reader has drawn. -/
def Ret2 (W : World) (g M : Nat) (e : Ending) (w' : World) : Prop := ∃ k x : Int, e = .returned (.tuple #[.int .i64 k, .int .i64 x]) ∧ (-1 ≤ k ∧ k ≤ 13) ∧ (-1 ≤ x ∧ x ≤ 4096) ∧ St W w' g M
def Ret3 (W : World) (g M : Nat) (e : Ending) (w' : World) : Prop := ∃ k x y : Int, e = .returned (.tuple #[.int .i64 k, .int .i64 x, .int .i64 y]) ∧ (-1 ≤ k ∧ k ≤ 13) ∧ (-1 ≤ x ∧ x ≤ 4096) ∧ (-1 ≤ y ∧ y ≤ 4096) ∧ St W w' g M
theorem ret2 {k x : Int} {W w' : World} {g M : Nat} (hk : -1 ≤ k ∧ k ≤ 13) (hx : -1 ≤ x ∧ x ≤ 4096) (hs : St W w' g M) : Ret2 W g M (.returned (.tuple #[.int .i64 k, .int .i64 x])) w' := ⟨k, x, rfl, hk, hx, hs⟩
theorem ret3 {k x y : Int} {W w' : World} {g M : Nat} (hk : -1 ≤ k ∧ k ≤ 13) (hx : -1 ≤ x ∧ x ≤ 4096) (hy : -1 ≤ y ∧ y ≤ 4096) (hs : St W w' g M) : Ret3 W g M (.returned (.tuple #[.int .i64 k, .int .i64 x, .int .i64 y])) w' := ⟨k, x, y, rfl, hk, hx, hy, hs⟩
/-- .. and what a draw hands back. -/
def Drew2 (w : World) (e : Ending) (w' : World) : Prop := ∃ k x : Int, e = .returned (.tuple #[.int .i64 k, .int .i64 x]) ∧ (-2000000 ≤ k ∧ k ≤ 2000000) ∧ (-2000000 ≤ x ∧ x ≤ 2000000) ∧ Below w.heap.size w w'
def Drew3 (w : World) (e : Ending) (w' : World) : Prop := ∃ k x y : Int, e = .returned (.tuple #[.int .i64 k, .int .i64 x, .int .i64 y]) ∧ (-1 ≤ k ∧ k ≤ 13) ∧ (-1 ≤ x ∧ x ≤ 4096) ∧ (-100 ≤ y ∧ y ≤ 4096) ∧ Below w.heap.size w w'
def Drew4 (w : World) (e : Ending) (w' : World) : Prop := ∃ k x y z : Int, e = .returned (.tuple #[.int .i64 k, .int .i64 x, .int .i64 y, .int .i64 z]) ∧ (-1 ≤ k ∧ k ≤ 13) ∧ (-1 ≤ x ∧ x ≤ 4096) ∧ (-1 ≤ y ∧ y ≤ 4096) ∧ (-100 ≤ z ∧ z ≤ 4096) ∧ Below w.heap.size w w'
theorem drew2 {k x : Int} {w w' : World} (hk : -2000000 ≤ k ∧ k ≤ 2000000) (hx : -2000000 ≤ x ∧ x ≤ 2000000) (hb : Below w.heap.size w w') : Drew2 w (.returned (.tuple #[.int .i64 k, .int .i64 x])) w' := ⟨k, x, rfl, hk, hx, hb⟩
theorem drew3 {k x y : Int} {w w' : World} (hk : -1 ≤ k ∧ k ≤ 13) (hx : -1 ≤ x ∧ x ≤ 4096) (hy : -100 ≤ y ∧ y ≤ 4096) (hb : Below w.heap.size w w') : Drew3 w (.returned (.tuple #[.int .i64 k, .int .i64 x, .int .i64 y])) w' := ⟨k, x, y, rfl, hk, hx, hy, hb⟩
theorem drew4 {k x y z : Int} {w w' : World} (hk : -1 ≤ k ∧ k ≤ 13) (hx : -1 ≤ x ∧ x ≤ 4096) (hy : -1 ≤ y ∧ y ≤ 4096) (hz : -100 ≤ z ∧ z ≤ 4096) (hb : Below w.heap.size w w') : Drew4 w (.returned (.tuple #[.int .i64 k, .int .i64 x, .int .i64 y, .int .i64 z])) w' := ⟨k, x, y, z, rfl, hk, hx, hy, hz, hb⟩
theorem res_tmp4 {fn : Func} {t u v x : Tmp} (h : fn.results = #[.tmp t, .tmp u, .tmp v, .tmp x]) (tmps : Array Value) (P : Program) (w : World) :
    (results fn tmps).run P w = .ok (.tuple #[tmps.getD t undef, tmps.getD u undef, tmps.getD v undef, tmps.getD x undef]) w := by simp [results, h]
theorem one_any (n : Int) (W w : World) (g M : Nat) (h : St W w g M) (hM : M ≤ 80000) (h1 : 0 ≤ n) (h2 : n ≤ 1000) :
    Calls Try.prog 73 #[.pointer (some ⟨g, 0, none⟩), .int .i64 n] w fun e w' => Ret2 W g (M + 6) e w' := by
  go_enter Try.func73, Try.ntmps73
  go_wp2_with fail
  refine (width_any _ W _ _ M h (by omega) (by omega) (by omega)).mono ?_
  rintro e w1 ⟨k, rfl, k0, k1, hs⟩
  go_wp2_with fail
  refine (word_any _ _ W _ _ (M + 2) hs (by omega) (by omega) (by omega)).mono ?_
  rintro e w2 ⟨x, rfl, x0, x1, hs2⟩
  go_wp2
  go_ret2
  exact ret2 ⟨k0, k1⟩ ⟨x0, x1⟩ hs2
theorem two_any (n : Int) (W w : World) (g M : Nat) (h : St W w g M) (hM : M ≤ 80000) (h1 : 0 ≤ n) (h2 : n ≤ 1000) :
    Calls Try.prog 66 #[.pointer (some ⟨g, 0, none⟩), .int .i64 n] w fun e w' => Ret3 W g (M + 10) e w' := by
  go_enter Try.func66, Try.ntmps66
  go_wp2_with fail
  refine (width_any _ W _ _ M h (by omega) (by omega) (by omega)).mono ?_
  rintro e w1 ⟨k, rfl, k0, k1, hs⟩
  go_wp2_with fail
  refine (word_any _ _ W _ _ (M + 2) hs (by omega) (by omega) (by omega)).mono ?_
  rintro e w2 ⟨x, rfl, x0, x1, hs2⟩
  go_wp2_with fail
  refine (word_any _ _ W _ _ (M + 6) hs2 (by omega) (by omega) (by omega)).mono ?_
  rintro e w3 ⟨y, rfl, y0, y1, hs3⟩
  go_wp2
  go_ret3
  exact ret3 ⟨k0, k1⟩ ⟨x0, x1⟩ ⟨y0, y1⟩ hs3
theorem by_any (W w : World) (g M : Nat) (h : St W w g M) (hM : M ≤ 80000) :
    Calls Try.prog 95 #[.pointer (some ⟨g, 0, none⟩)] w fun e w' => NumRet (-20) 20 W g (M + 3) e w' := by
  go_enter Try.func95, Try.ntmps95
  go_wp2_with fail
  refine (pick_any _ W _ _ M h (by omega)).mono ?_
  rintro e w1 ⟨x, rfl, x0, x1, hs, -⟩
  have x1 := x1 (by omega)
  go_wp2_with fail
  refine (pick_any _ W _ _ (M + 1) hs (by omega)).mono ?_
  rintro e w2 ⟨y, rfl, y0, y1, hs2, -⟩
  have y1 := y1 (by omega)
  go_wp2_with fail
  refine (pick_any _ W _ _ (M + 2) hs2 (by omega)).mono ?_
  rintro e w3 ⟨z, rfl, z0, z1, hs3, -⟩
  have z1 := z1 (by omega)
  go_wp2
  go_ret
  exact num_ret (by omega) (by omega) hs3

theorem drawWordValid (a : Option Addr) (len cap : Nat) (zs : List Int) (w : World) (h : IsRow .u8 w a len cap zs) :
    Calls Try.prog 32 #[.slice a len cap] w fun e w' => Drew2 w e w' := by
  go_enter Try.func32, Try.ntmps32
  go_wp2_with fail
  refine (open_any _ _ _ zs _ h).mono ?_
  rintro e w1 ⟨g, rfl, hs⟩
  go_wp2_with fail
  refine (one_any _ w _ _ 0 hs (by omega) (by omega) (by omega)).mono ?_
  rintro e w2 ⟨k, x, rfl, hk, hx, hs2⟩
  go_wp2
  go_ret2
  exact drew2 (by omega) (by omega) hs2.below

theorem drawSignedOf (a : Option Addr) (len cap : Nat) (zs : List Int) (w : World) (h : IsRow .u8 w a len cap zs) :
    Calls Try.prog 51 #[.slice a len cap] w fun e w' => Drew2 w e w' := by
  go_enter Try.func51, Try.ntmps51
  go_wp2_with fail
  refine (open_any _ _ _ zs _ h).mono ?_
  rintro e w1 ⟨g, rfl, hs⟩
  go_wp2_with fail
  refine (one_any _ w _ _ 0 hs (by omega) (by omega) (by omega)).mono ?_
  rintro e w2 ⟨k, x, rfl, hk, hx, hs2⟩
  go_wp2
  go_ret2
  exact drew2 (by omega) (by omega) hs2.below

theorem drawWordNot (a : Option Addr) (len cap : Nat) (zs : List Int) (w : World) (h : IsRow .u8 w a len cap zs) :
    Calls Try.prog 38 #[.slice a len cap] w fun e w' => Drew2 w e w' := by
  go_enter Try.func38, Try.ntmps38
  go_wp2_with fail
  refine (open_any _ _ _ zs _ h).mono ?_
  rintro e w1 ⟨g, rfl, hs⟩
  go_wp2_with fail
  refine (one_any _ w _ _ 0 hs (by omega) (by omega) (by omega)).mono ?_
  rintro e w2 ⟨k, x, rfl, hk, hx, hs2⟩
  go_wp2
  go_ret2
  exact drew2 (by omega) (by omega) hs2.below

theorem drawWordAdd (a : Option Addr) (len cap : Nat) (zs : List Int) (w : World) (h : IsRow .u8 w a len cap zs) :
    Calls Try.prog 54 #[.slice a len cap] w fun e w' => Drew3 w e w' := by
  go_enter Try.func54, Try.ntmps54
  go_wp2_with fail
  refine (open_any _ _ _ zs _ h).mono ?_
  rintro e w1 ⟨g, rfl, hs⟩
  go_wp2_with fail
  refine (two_any _ w _ _ 0 hs (by omega) (by omega) (by omega)).mono ?_
  rintro e w2 ⟨k, x, y, rfl, hk, hx, hy, hs2⟩
  go_wp2
  go_ret3
  exact drew3 (by omega) (by omega) (by omega) hs2.below

theorem drawWordSub (a : Option Addr) (len cap : Nat) (zs : List Int) (w : World) (h : IsRow .u8 w a len cap zs) :
    Calls Try.prog 45 #[.slice a len cap] w fun e w' => Drew3 w e w' := by
  go_enter Try.func45, Try.ntmps45
  go_wp2_with fail
  refine (open_any _ _ _ zs _ h).mono ?_
  rintro e w1 ⟨g, rfl, hs⟩
  go_wp2_with fail
  refine (two_any _ w _ _ 0 hs (by omega) (by omega) (by omega)).mono ?_
  rintro e w2 ⟨k, x, y, rfl, hk, hx, hy, hs2⟩
  go_wp2
  go_ret3
  exact drew3 (by omega) (by omega) (by omega) hs2.below


theorem drawWordAnd (a : Option Addr) (len cap : Nat) (zs : List Int) (w : World) (h : IsRow .u8 w a len cap zs) :
    Calls Try.prog 47 #[.slice a len cap] w fun e w' => Drew3 w e w' := by
  go_enter Try.func47, Try.ntmps47
  go_wp2_with fail
  refine (open_any _ _ _ zs _ h).mono ?_
  rintro e w1 ⟨g, rfl, hs⟩
  go_wp2_with fail
  refine (two_any _ w _ _ 0 hs (by omega) (by omega) (by omega)).mono ?_
  rintro e w2 ⟨k, x, y, rfl, hk, hx, hy, hs2⟩
  go_wp2
  go_ret3
  exact drew3 (by omega) (by omega) (by omega) hs2.below




theorem drawPrefixSteps (a : Option Addr) (len cap : Nat) (zs : List Int) (w : World) (h : IsRow .u8 w a len cap zs) :
    Calls Try.prog 20 #[.slice a len cap] w fun e w' => Drew3 w e w' := by
  go_enter Try.func20, Try.ntmps20
  go_wp2_with fail
  refine (open_any _ _ _ zs _ h).mono ?_
  rintro e w1 ⟨g, rfl, hs⟩
  go_wp2_with fail
  refine (two_any _ w _ _ 0 hs (by omega) (by omega) (by omega)).mono ?_
  rintro e w2 ⟨k, x, y, rfl, hk, hx, hy, hs2⟩
  go_wp2
  go_ret3
  exact drew3 (by omega) (by omega) (by omega) hs2.below


theorem drawWordLeft (a : Option Addr) (len cap : Nat) (zs : List Int) (w : World) (h : IsRow .u8 w a len cap zs) :
    Calls Try.prog 81 #[.slice a len cap] w fun e w' => Drew3 w e w' := by
  go_enter Try.func81, Try.ntmps81
  go_wp2_with fail
  refine (open_any _ _ _ zs _ h).mono ?_
  rintro e w1 ⟨g, rfl, hs⟩
  go_wp2_with fail
  refine (one_any _ w _ _ 0 hs (by omega) (by omega) (by omega)).mono ?_
  rintro e w2 ⟨k, x, rfl, hk, hx, hs2⟩
  go_wp2_with fail
  refine (by_any w _ _ _ hs2 (by omega)).mono ?_
  rintro e w3 ⟨y, rfl, y0, y1, hs3⟩
  go_wp2
  go_ret3
  exact drew3 (by omega) (by omega) (by omega) hs3.below

theorem drawWordRight (a : Option Addr) (len cap : Nat) (zs : List Int) (w : World) (h : IsRow .u8 w a len cap zs) :
    Calls Try.prog 42 #[.slice a len cap] w fun e w' => Drew3 w e w' := by
  go_enter Try.func42, Try.ntmps42
  go_wp2_with fail
  refine (drawWordLeft _ _ _ zs _ h).mono ?_
  rintro e w1 ⟨k, x, y, rfl, hk, hx, hy, hb⟩
  go_wp2
  go_ret3
  exact drew3 hk hx hy hb



theorem drawWordOf (a : Option Addr) (len cap : Nat) (zs : List Int) (w : World) (h : IsRow .u8 w a len cap zs) :
    Calls Try.prog 35 #[.slice a len cap] w fun e w' => Drew2 w e w' := by
  go_enter Try.func35, Try.ntmps35
  go_wp2_with fail
  refine (open_any _ _ _ zs _ h).mono ?_
  rintro e w1 ⟨g, rfl, hs⟩
  go_wp2_with fail
  refine (width_any _ w _ _ 0 hs (by omega) (by omega) (by omega)).mono ?_
  rintro e w2 ⟨k, rfl, k0, k1, hs2⟩
  go_wp2_with fail
  refine (pick_any _ w _ _ 2 hs2 (by omega)).mono ?_
  rintro e w3 ⟨x0, rfl, a0, b0, hs3, -⟩
  have b0 := b0 (by omega)
  go_wp2_with fail
  refine (pick_any _ w _ _ 3 hs3 (by omega)).mono ?_
  rintro e w4 ⟨x1, rfl, a1, b1, hs4, -⟩
  have b1 := b1 (by omega)
  have m1 : 0 ≤ x0 * x1 ∧ x0 * x1 ≤ 65280 := by
    have h7 : x0 * x1 ≤ 256 * x1 := Int.mul_le_mul_of_nonneg_right (by omega) (by omega)
    exact ⟨Int.mul_nonneg a0 a1, by omega⟩
  go_wp2_with fail
  refine (pick_any _ w _ _ 4 hs4 (by omega)).mono ?_
  rintro e w5 ⟨x2, rfl, a2, b2, hs5, -⟩
  have b2 := b2 (by omega)
  have m2 : 0 ≤ x0 * x1 * x2 ∧ x0 * x1 * x2 ≤ 195840 := by
    have h7 : x0 * x1 * x2 ≤ 65280 * x2 := Int.mul_le_mul_of_nonneg_right (by omega) (by omega)
    exact ⟨Int.mul_nonneg m1.1 a2, by omega⟩
  go_wp2_with fail
  refine (pick_any _ w _ _ 5 hs5 (by omega)).mono ?_
  rintro e w6 ⟨x3, rfl, a3, b3, hs6, -⟩
  have b3 := b3 (by omega)
  go_wp2_with fail
  refine (pick_any _ w _ _ 6 hs6 (by omega)).mono ?_
  rintro e w7 ⟨x4, rfl, a4, b4, hs7, -⟩
  have b4 := b4 (by omega)
  have m4 : 0 ≤ x3 * x4 ∧ x3 * x4 ≤ 65280 := by
    have h7 : x3 * x4 ≤ 256 * x4 := Int.mul_le_mul_of_nonneg_right (by omega) (by omega)
    exact ⟨Int.mul_nonneg a3 a4, by omega⟩
  go_wp2
  go_ret2
  exact drew2 (by omega) (by omega) hs7.below

theorem drawCarryJoin (a : Option Addr) (len cap : Nat) (zs : List Int) (w : World) (h : IsRow .u8 w a len cap zs) :
    Calls Try.prog 29 #[.slice a len cap] w fun e w' => Drew2 w e w' := by
  go_enter Try.func29, Try.ntmps29
  go_wp2_with fail
  refine (open_any _ _ _ zs _ h).mono ?_
  rintro e w1 ⟨g, rfl, hs⟩
  go_wp2_with fail
  refine (pick_any _ w _ _ 0 hs (by omega)).mono ?_
  rintro e w2 ⟨x0, rfl, a0, b0, hs1, -⟩
  have b0 := b0 (by omega)
  go_wp2_with fail
  refine (pick_any _ w _ _ 1 hs1 (by omega)).mono ?_
  rintro e w3 ⟨x1, rfl, a1, b1, hs2, -⟩
  have b1 := b1 (by omega)
  go_wp2_with fail
  refine (pick_any _ w _ _ 2 hs2 (by omega)).mono ?_
  rintro e w4 ⟨x2, rfl, a2, b2, hs3, -⟩
  have b2 := b2 (by omega)
  go_wp2_with fail
  refine (pick_any _ w _ _ 3 hs3 (by omega)).mono ?_
  rintro e w5 ⟨x3, rfl, a3, b3, hs4, -⟩
  have b3 := b3 (by omega)
  go_wp2_with fail
  go_ret2
  exact drew2 (by omega) (by omega) hs4.below

theorem drawCarriesOf (a : Option Addr) (len cap : Nat) (zs : List Int) (w : World) (h : IsRow .u8 w a len cap zs) :
    Calls Try.prog 69 #[.slice a len cap] w fun e w' => Drew4 w e w' := by
  go_enter Try.func69, Try.ntmps69
  go_wp2_with fail
  refine (open_any _ _ _ zs _ h).mono ?_
  rintro e w1 ⟨g, rfl, hs⟩
  go_wp2_with fail
  refine (two_any _ w _ _ 0 hs (by omega) (by omega) (by omega)).mono ?_
  rintro e w2 ⟨k, x, y, rfl, hk, hx, hy, hs2⟩
  have hs0 := hs2
  go_wp2_with fail
  refine (pick_any _ w _ _ 10 hs0 (by omega)).mono ?_
  rintro e w3 ⟨x0, rfl, a0, b0, hs1, -⟩
  have b0 := b0 (by omega)
  go_wp2_with fail
  refine (pick_any _ w _ _ 11 hs1 (by omega)).mono ?_
  rintro e w4 ⟨x1, rfl, a1, b1, hs2', -⟩
  have b1 := b1 (by omega)
  go_wp2_with fail
  refine (pick_any _ w _ _ 12 hs2' (by omega)).mono ?_
  rintro e w5 ⟨x2, rfl, a2, b2, hs3, -⟩
  have b2 := b2 (by omega)
  go_wp2_with fail
  refine bodyPost_ret (res_tmp4 rfl _ _ _) rfl ?_
  exact drew4 hk hx hy (by omega) hs3.below

theorem drawFastCarries (a : Option Addr) (len cap : Nat) (zs : List Int) (w : World) (h : IsRow .u8 w a len cap zs) :
    Calls Try.prog 24 #[.slice a len cap] w fun e w' => Drew4 w e w' := by
  go_enter Try.func24, Try.ntmps24
  go_wp2_with fail
  refine (drawCarriesOf _ _ _ zs _ h).mono ?_
  rintro e w1 ⟨k, x, y, z, rfl, hk, hx, hy, hz, hb⟩
  go_wp2
  refine bodyPost_ret (res_tmp4 rfl _ _ _) rfl ?_
  exact drew4 hk hx hy hz hb




end Go.Proofs.Yteoalkgpdgoaeaa
