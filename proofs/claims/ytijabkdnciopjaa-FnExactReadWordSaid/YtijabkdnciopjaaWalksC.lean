/-
  THE WALKS OF KINDS, PRODUCTS AND DIVISIONS, the program's and the reference's: each answers plain functions of its arguments; no condition.
-/
import Derived.Test.YtijabkdnciopjaaWalksB
import Derived.Test.YtijabkdnciopjaaAdders
import Derived.Test.YtijabkdnciopjaaProducts
namespace Go.Proofs.Ytijabkdnciopjaa
open Go Go.RowKit Bw
set_option linter.unusedVariables false
theorem ret_tup {a b c d : Int} {x y : Bool} (h : a = b) (h' : c = d) (hx : x = y) : Ending.returned (.tuple #[.int .i64 a, .int .i64 c, .bool x]) = .returned (.tuple #[.int .i64 b, .int .i64 d, .bool y]) := by rw [h, h', hx]

theorem joinI_any (x y : Int) (w : World) :
    Calls Try.prog 18 #[.int .i64 x, .int .i64 y] w fun e w' => e = .returned (.int .i64 (join x y)) ∧ w = w' := by
  have hx : inB x 0 2 = vT x := rfl
  have hy : inB y 0 2 = vT y := rfl
  by_cases h1 : vT x = true
  · by_cases h2 : vT y = true
    · by_cases h3 : y = 1
      · subst h3
        have E := Lib.hid (show join x 1 = x by unfold join; rw [h1, h2]; rfl)
        go_enter Try.func18, Try.ntmps18
        go_wp2_with ((go_at_call 39; refine (within_any _ _ _ _).mono ?_; rintro e w' ⟨rfl, rfl⟩))
        go_ret
        exact ⟨ret_int E.out.symm, rfl⟩
      · have hb : (y == 1) = false := by simpa using h3
        have E := Lib.hid (show join x y = y by unfold join; rw [h1, h2]; simp [h3])
        go_enter Try.func18, Try.ntmps18
        go_wp2_with ((go_at_call 39; refine (within_any _ _ _ _).mono ?_; rintro e w' ⟨rfl, rfl⟩))
        go_ret
        exact ⟨ret_int E.out.symm, rfl⟩
    · have h2 : vT y = false := by simpa using h2
      have E := Lib.hid (show join x y = -1 by unfold join; rw [h1, h2]; rfl)
      go_enter Try.func18, Try.ntmps18
      go_wp2_with ((go_at_call 39; refine (within_any _ _ _ _).mono ?_; rintro e w' ⟨rfl, rfl⟩))
      go_ret
      exact ⟨ret_int E.out.symm, rfl⟩
  · have h1 : vT x = false := by simpa using h1
    have E := Lib.hid (show join x y = -1 by unfold join; rw [h1]; rfl)
    go_enter Try.func18, Try.ntmps18
    go_wp2_with ((go_at_call 39; refine (within_any _ _ _ _).mono ?_; rintro e w' ⟨rfl, rfl⟩))
    go_ret
    exact ⟨ret_int E.out.symm, rfl⟩
theorem joinS_any (x y : Int) (w : World) :
    Calls Try.prog 17 #[.int .i64 x, .int .i64 y] w fun e w' => e = .returned (.int .i64 (join x y)) ∧ w = w' := by
  have hx : inB x 0 2 = vT x := rfl
  have hy : inB y 0 2 = vT y := rfl
  by_cases h1 : vT x = true
  · by_cases h2 : vT y = true
    · by_cases h3 : y = 1
      · subst h3
        have E := Lib.hid (show join x 1 = x by unfold join; rw [h1, h2]; rfl)
        go_enter Try.func17, Try.ntmps17
        go_wp2_with ((go_at_call 37; refine (l1In_any _ _ _ _).mono ?_; rintro e w' ⟨rfl, rfl⟩))
        go_ret
        exact ⟨ret_int E.out.symm, rfl⟩
      · have hb : (y == 1) = false := by simpa using h3
        have E := Lib.hid (show join x y = y by unfold join; rw [h1, h2]; simp [h3])
        go_enter Try.func17, Try.ntmps17
        go_wp2_with ((go_at_call 37; refine (l1In_any _ _ _ _).mono ?_; rintro e w' ⟨rfl, rfl⟩))
        go_ret
        exact ⟨ret_int E.out.symm, rfl⟩
    · have h2 : vT y = false := by simpa using h2
      have E := Lib.hid (show join x y = -1 by unfold join; rw [h1, h2]; rfl)
      go_enter Try.func17, Try.ntmps17
      go_wp2_with ((go_at_call 37; refine (l1In_any _ _ _ _).mono ?_; rintro e w' ⟨rfl, rfl⟩))
      go_ret
      exact ⟨ret_int E.out.symm, rfl⟩
  · have h1 : vT x = false := by simpa using h1
    have E := Lib.hid (show join x y = -1 by unfold join; rw [h1]; rfl)
    go_enter Try.func17, Try.ntmps17
    go_wp2_with ((go_at_call 37; refine (l1In_any _ _ _ _).mono ?_; rintro e w' ⟨rfl, rfl⟩))
    go_ret
    exact ⟨ret_int E.out.symm, rfl⟩
theorem divI_any (k a b : Int) (w : World) :
    Calls Try.prog 30 #[.int .i64 k, .int .i64 a, .int .i64 b] w fun e w' => e = .returned (.tuple #[.int .i64 (quo k a b), .int .i64 (rem_ k a b), .bool (vD k a b)]) ∧ Below w.heap.size w w' := by
  by_cases h : v2 k a b = true
  · obtain ⟨h1, h2, h3, h4, h5, h6, h12⟩ := v2_bd h
    by_cases h0 : b = 0
    · subst h0
      have E1 := Lib.hid (show quo k a 0 = -1 by unfold quo vD; simp)
      have E2 := Lib.hid (show rem_ k a 0 = -1 by unfold rem_ vD; simp)
      have E3 := Lib.hid (show vD k a 0 = false by unfold vD; simp)
      go_enter Try.func30, Try.ntmps30
      go_wp2_with ((go_at_call 50; refine (allValid2_any _ _ _ _).mono ?_; rintro e w' ⟨rfl, rfl⟩))
      go_ret3
      exact ⟨ret_tup E1.out.symm E2.out.symm E3.out.symm, by first | exact Below.refl _ _ | exact below_new1 _ _ | exact below_drewN (below_new1 _ _) _ | exact below_drewN (Below.refl _ _) _⟩
    · have hb : (b == 0) = false := by simpa using h0
      have hbp : 1 ≤ b := by omega
      have hd := Lib.hid (vD_iff.mpr ⟨h, h0⟩)
      have E1 := Lib.hid (show quo k a b = a / b by unfold quo; rw [hd.out]; rfl)
      have E2 := Lib.hid (show rem_ k a b = a % b by unfold rem_; rw [hd.out]; rfl)
      have E3 := Lib.hid (hd.out)
      go_enter Try.func30, Try.ntmps30
      go_wp2_with ((go_at_call 50; refine (allValid2_any _ _ _ _).mono ?_; rintro e w' ⟨rfl, rfl⟩))
      go_quiet (fail)
      go_wp2
      go_ret3
      exact ⟨ret_tup E1.out.symm E2.out.symm E3.out.symm, by first | exact Below.refl _ _ | exact below_new1 _ _ | exact below_drewN (below_new1 _ _) _ | exact below_drewN (Below.refl _ _) _⟩
  · have h : v2 k a b = false := by simpa using h
    have E1 := Lib.hid (show quo k a b = -1 by unfold quo vD; rw [h]; rfl)
    have E2 := Lib.hid (show rem_ k a b = -1 by unfold rem_ vD; rw [h]; rfl)
    have E3 := Lib.hid (show vD k a b = false by unfold vD; rw [h]; rfl)
    go_enter Try.func30, Try.ntmps30
    go_wp2_with ((go_at_call 50; refine (allValid2_any _ _ _ _).mono ?_; rintro e w' ⟨rfl, rfl⟩))
    go_ret3
    exact ⟨ret_tup E1.out.symm E2.out.symm E3.out.symm, by first | exact Below.refl _ _ | exact below_new1 _ _ | exact below_drewN (below_new1 _ _) _ | exact below_drewN (Below.refl _ _) _⟩

theorem divS_any (k a b : Int) (w : World) :
    Calls Try.prog 29 #[.int .i64 k, .int .i64 a, .int .i64 b] w fun e w' => e = .returned (.tuple #[.int .i64 (quo k a b), .int .i64 (rem_ k a b), .bool (vD k a b)]) ∧ Below w.heap.size w w' := by
  by_cases h : v2 k a b = true
  · obtain ⟨h1, h2, h3, h4, h5, h6, h12⟩ := v2_bd h
    by_cases h0 : b = 0
    · subst h0
      have E1 := Lib.hid (show quo k a 0 = -1 by unfold quo vD; simp)
      have E2 := Lib.hid (show rem_ k a 0 = -1 by unfold rem_ vD; simp)
      have E3 := Lib.hid (show vD k a 0 = false by unfold vD; simp)
      go_enter Try.func29, Try.ntmps29
      go_wp2_with ((go_at_call 49; refine (both_any _ _ _ _).mono ?_; rintro e w' ⟨rfl, rfl⟩))
      go_ret3
      exact ⟨ret_tup E1.out.symm E2.out.symm E3.out.symm, by first | exact Below.refl _ _ | exact below_new1 _ _ | exact below_drewN (below_new1 _ _) _ | exact below_drewN (Below.refl _ _) _⟩
    · have hb : (b == 0) = false := by simpa using h0
      have hbp : 1 ≤ b := by omega
      have hd := Lib.hid (vD_iff.mpr ⟨h, h0⟩)
      have E1 := Lib.hid (show quo k a b = a / b by unfold quo; rw [hd.out]; rfl)
      have E2 := Lib.hid (show rem_ k a b = a % b by unfold rem_; rw [hd.out]; rfl)
      have E3 := Lib.hid (hd.out)
      go_enter Try.func29, Try.ntmps29
      go_wp2_with ((go_at_call 49; refine (both_any _ _ _ _).mono ?_; rintro e w' ⟨rfl, rfl⟩))
      go_quiet (fail)
      go_wp2
      go_ret3
      exact ⟨ret_tup E1.out.symm E2.out.symm E3.out.symm, by first | exact Below.refl _ _ | exact below_new1 _ _ | exact below_drewN (below_new1 _ _) _ | exact below_drewN (Below.refl _ _) _⟩
  · have h : v2 k a b = false := by simpa using h
    have E1 := Lib.hid (show quo k a b = -1 by unfold quo vD; rw [h]; rfl)
    have E2 := Lib.hid (show rem_ k a b = -1 by unfold rem_ vD; rw [h]; rfl)
    have E3 := Lib.hid (show vD k a b = false by unfold vD; rw [h]; rfl)
    go_enter Try.func29, Try.ntmps29
    go_wp2_with ((go_at_call 49; refine (both_any _ _ _ _).mono ?_; rintro e w' ⟨rfl, rfl⟩))
    go_ret3
    exact ⟨ret_tup E1.out.symm E2.out.symm E3.out.symm, by first | exact Below.refl _ _ | exact below_new1 _ _ | exact below_drewN (below_new1 _ _) _ | exact below_drewN (Below.refl _ _) _⟩

theorem m64 {x y : Int} (x0 : 0 ≤ x) (x1 : x < 64) (y0 : 0 ≤ y) (y1 : y < 64) : 0 ≤ x * y ∧ x * y ≤ 4096 := by
  have h7 : x * y ≤ 64 * y := Int.mul_le_mul_of_nonneg_right (by omega) y0
  exact ⟨Int.mul_nonneg x0 y0, by omega⟩
theorem halfI_any (k a b : Int) (w : World) :
    Calls Try.prog 36 #[.int .i64 k, .int .i64 a, .int .i64 b] w fun e w' => e = .returned (.tuple #[.int .i64 (halfHi k a b), .int .i64 (halfLo k a b), .bool (vH k a b)]) ∧ Below w.heap.size w w' := by
  by_cases h : v2 k a b = true
  · obtain ⟨h1, h2, h3, h4, h5, h6, h12⟩ := v2_bd h
    by_cases he : k % 2 = 0
    · have hv : vH k a b = true := by unfold vH; rw [h]; simpa using he
      have HV := Lib.hid hv
      clear hv
      obtain ⟨g, hg⟩ : ∃ g, k / 2 = g := ⟨_, rfl⟩
      have hk : k = 2 * g := by omega
      have g0 : 1 ≤ g := by omega
      have g1 : g ≤ 6 := by omega
      rw [hk] at h4 h6
      have hs := half_sum (h := g) (a := a) (b := b) (by omega) h3 h4 h5 h6
      obtain ⟨-, x1, x2, x3, x4, -⟩ := halves (h := g) (x := a) (by omega) h3 h4
      obtain ⟨-, y1, y2, y3, y4, -⟩ := halves (h := g) (x := b) (by omega) h5 h6
      rw [← hk] at h4 h6 hs
      have HK := Lib.hid hk
      clear hk
      have k0 : 2 * g ≤ k := by omega
      have k1 : k ≤ 2 * g := by omega
      have p6 : pw g ≤ 64 := pw_mono (b := 6) g1
      have p0 := pw_pos g
      have pk0 := pw_pos k
      obtain ⟨a1, ha1⟩ : ∃ v, a / 2 ^ g.toNat = v := ⟨_, rfl⟩
      obtain ⟨b1, hb1⟩ : ∃ v, b / 2 ^ g.toNat = v := ⟨_, rfl⟩
      obtain ⟨a0, ha0⟩ : ∃ v, a % pw g = v := ⟨_, rfl⟩
      obtain ⟨b0, hb0⟩ : ∃ v, b % pw g = v := ⟨_, rfl⟩
      have ha1' : a / pw g = a1 := ha1
      have hb1' : b / pw g = b1 := hb1
      rw [ha1', hb1', ha0, hb0] at hs
      rw [ha1'] at x1 x2
      rw [hb1'] at y1 y2
      rw [ha0] at x3 x4
      rw [hb0] at y3 y4
      clear ha1' hb1'
      have m1 := m64 x3 (by omega) y3 (by omega)
      have m2 := m64 x3 (by omega) y1 (by omega)
      have m3 := m64 x1 (by omega) y3 (by omega)
      have m4 := m64 x1 (by omega) y1 (by omega)
      have sb := shl_bd (x := a1 * b1) (k := k) (by omega) (by omega) h2
      have sm : 0 ≤ (a0 * b1 + a1 * b0) * pw g ∧ (a0 * b1 + a1 * b0) * pw g ≤ 8192 * 64 := by
        have h7 : (a0 * b1 + a1 * b0) * pw g ≤ 8192 * pw g := Int.mul_le_mul_of_nonneg_right (by omega) (by omega)
        exact ⟨Int.mul_nonneg (by omega) (by omega), by omega⟩
      have e1 := IntWalk.i64_in (a0 * b0) (by omega)
      have e2 := IntWalk.i64_in (a0 * b1) (by omega)
      have e3 := IntWalk.i64_in (a1 * b0) (by omega)
      have e4 := IntWalk.i64_in (a0 * b1 + a1 * b0) (by omega)
      have e5 : IntKind.i64.wrap ((a0 * b1 + a1 * b0) * 2 ^ g.toNat) = (a0 * b1 + a1 * b0) * pw g := shl_wrap (by omega) (by omega)
      have e6 := IntWalk.i64_in (a0 * b0 + (a0 * b1 + a1 * b0) * pw g) (by omega)
      have e7 := IntWalk.i64_in (a1 * b1) (by omega)
      have e8 : IntKind.i64.wrap (a1 * b1 * 2 ^ k.toNat) = a1 * b1 * pw k := shl_wrap (by omega) (by omega)
      have e9 : IntKind.i64.wrap (a0 * b0 + (a0 * b1 + a1 * b0) * pw g + a1 * b1 * pw k) = a * b := by rw [← hs]; exact IntWalk.i64_in _ (by omega)
      clear m1 m2 m3 m4 sb sm hs
      have hr := shr_eq (a * b) k
      have E1 := Lib.hid (show halfHi k a b = a * b / pw k by unfold halfHi; rw [HV.out]; rfl)
      have E2 := Lib.hid (show halfLo k a b = a * b % pw k by unfold halfLo; rw [HV.out]; rfl)
      go_enter Try.func36, Try.ntmps36
      go_wp2_with ((go_at_call 50; refine (allValid2_any _ _ _ _).mono ?_; rintro e w' ⟨rfl, rfl⟩))
      go_quiet ((go_at_call 42; first | exact quiet_1 (cut_any _ _ _ (by omega) (by omega)) | exact quiet_2 (cut_any _ _ _ (by omega) (by omega))))
      go_wp2_with fail
      go_quiet (fail)
      go_wp2_with fail
      go_quiet ((go_at_call 42; first | exact quiet_1 (cut_any _ _ _ (by omega) (by omega)) | exact quiet_2 (cut_any _ _ _ (by omega) (by omega))))
      go_wp2_with fail
      go_ret3
      exact ⟨ret_tup E1.out.symm E2.out.symm HV.out.symm, below_drewN (below_drewN (below_drewN (below_new1 _ _) _) _) _⟩
    · have hb : (k % 2 != 0) = true := by simpa using he
      have hv : vH k a b = false := by unfold vH; simp [he]
      have HV := Lib.hid hv
      clear hv
      have E1 := Lib.hid (show halfHi k a b = -1 by unfold halfHi; rw [HV.out]; rfl)
      have E2 := Lib.hid (show halfLo k a b = -1 by unfold halfLo; rw [HV.out]; rfl)
      go_enter Try.func36, Try.ntmps36
      go_wp2_with ((go_at_call 50; refine (allValid2_any _ _ _ _).mono ?_; rintro e w' ⟨rfl, rfl⟩))
      go_ret3
      exact ⟨ret_tup E1.out.symm E2.out.symm HV.out.symm, below_new1 _ _⟩
  · have h : v2 k a b = false := by simpa using h
    have HV := Lib.hid (show vH k a b = false by unfold vH; rw [h]; rfl)
    have E1 := Lib.hid (show halfHi k a b = -1 by unfold halfHi; rw [HV.out]; rfl)
    have E2 := Lib.hid (show halfLo k a b = -1 by unfold halfLo; rw [HV.out]; rfl)
    go_enter Try.func36, Try.ntmps36
    go_wp2_with ((go_at_call 50; refine (allValid2_any _ _ _ _).mono ?_; rintro e w' ⟨rfl, rfl⟩))
    go_ret3
    exact ⟨ret_tup E1.out.symm E2.out.symm HV.out.symm, below_new1 _ _⟩
theorem halfS_any (k a b : Int) (w : World) :
    Calls Try.prog 35 #[.int .i64 k, .int .i64 a, .int .i64 b] w fun e w' => e = .returned (.tuple #[.int .i64 (halfHi k a b), .int .i64 (halfLo k a b), .bool (vH k a b)]) ∧ Below w.heap.size w w' := by
  by_cases h : v2 k a b = true
  · obtain ⟨h1, h2, h3, h4, h5, h6, h12⟩ := v2_bd h
    by_cases he : k % 2 = 0
    · have hv : vH k a b = true := by unfold vH; rw [h]; simpa using he
      have HV := Lib.hid hv
      clear hv
      obtain ⟨g, hg⟩ : ∃ g, k / 2 = g := ⟨_, rfl⟩
      have hk : k = 2 * g := by omega
      have g0 : 1 ≤ g := by omega
      have g1 : g ≤ 6 := by omega
      rw [hk] at h4 h6
      obtain ⟨r1, r2⟩ := half_way (h := g) (a := a) (b := b) (by omega) h3 h4 h5 h6
      obtain ⟨-, x1, x2, x3, x4, -⟩ := halves (h := g) (x := a) (by omega) h3 h4
      obtain ⟨-, y1, y2, y3, y4, -⟩ := halves (h := g) (x := b) (by omega) h5 h6
      rw [← hk] at h4 h6 r1 r2
      have HK := Lib.hid hk
      clear hk
      have k0 : 2 * g ≤ k := by omega
      have k1 : k ≤ 2 * g := by omega
      have p6 : pw g ≤ 64 := pw_mono (b := 6) g1
      have p0 := pw_pos g
      have hone := shl_one (k := g) (by omega)
      obtain ⟨a1, ha1⟩ : ∃ v, a / 2 ^ g.toNat = v := ⟨_, rfl⟩
      obtain ⟨b1, hb1⟩ : ∃ v, b / 2 ^ g.toNat = v := ⟨_, rfl⟩
      obtain ⟨a0, ha0⟩ : ∃ v, a % pw g = v := ⟨_, rfl⟩
      obtain ⟨b0, hb0⟩ : ∃ v, b % pw g = v := ⟨_, rfl⟩
      have ha1' : a / pw g = a1 := ha1
      have hb1' : b / pw g = b1 := hb1
      rw [ha1', hb1', ha0, hb0] at r1 r2
      rw [ha1'] at x1 x2
      rw [hb1'] at y1 y2
      rw [ha0] at x3 x4
      rw [hb0] at y3 y4
      clear ha1' hb1'
      have m1 := m64 x3 (by omega) y3 (by omega)
      have m2 := m64 x3 (by omega) y1 (by omega)
      have m3 := m64 x1 (by omega) y3 (by omega)
      have m4 := m64 x1 (by omega) y1 (by omega)
      obtain ⟨lo, hlo⟩ : ∃ v, a0 * b0 = v := ⟨_, rfl⟩
      obtain ⟨lq, hlq⟩ : ∃ v, lo / 2 ^ g.toNat = v := ⟨_, rfl⟩
      have hlq' : lo / pw g = lq := hlq
      rw [hlo] at r1 r2 m1
      rw [hlq'] at r1 r2
      have q0 : 0 ≤ lq ∧ lq ≤ lo := by rw [← hlq']; exact ⟨div_nonneg (by omega), div_le (by omega)⟩
      obtain ⟨mi, hmi⟩ : ∃ v, a0 * b1 + a1 * b0 + lq = v := ⟨_, rfl⟩
      rw [hmi] at r1 r2
      have mi0 : 0 ≤ mi ∧ mi ≤ 12288 := by omega
      have e0 : IntKind.i64.wrap (a0 * b0) = lo := by rw [hlo]; exact IntWalk.i64_in _ (by omega)
      have e2 := IntWalk.i64_in (a0 * b1) (by omega)
      have e3 := IntWalk.i64_in (a1 * b0) (by omega)
      have e4 := IntWalk.i64_in (a0 * b1 + a1 * b0) (by omega)
      have e7 := IntWalk.i64_in (a1 * b1) (by omega)
      obtain ⟨mq, hmq⟩ : ∃ v, mi / 2 ^ g.toNat = v := ⟨_, rfl⟩
      have hmq' : mi / pw g = mq := hmq
      have mq0 : 0 ≤ mq ∧ mq ≤ mi := by rw [← hmq']; exact ⟨div_nonneg (by omega), div_le (by omega)⟩
      rw [hmq'] at r1
      have e8 : IntKind.i64.wrap (a1 * b1 + mq) = a * b / pw k := by rw [← r1]; exact IntWalk.i64_in _ (by omega)
      have t1 : mi.tmod (pw g) = mi % pw g := Int.tmod_eq_emod_of_nonneg mi0.1
      have t2 : lo.tmod (pw g) = lo % pw g := Int.tmod_eq_emod_of_nonneg m1.1
      have z1 := Int.emod_nonneg mi (b := pw g) (by omega)
      have z2 := Int.emod_lt_of_pos mi (b := pw g) (by omega)
      have z3 := Int.emod_nonneg lo (b := pw g) (by omega)
      have z4 := Int.emod_lt_of_pos lo (b := pw g) (by omega)
      have sm := shl_bd (x := mi % pw g) (k := g) (by omega) (by omega) (by omega)
      have e5 : IntKind.i64.wrap (mi % pw g * 2 ^ g.toNat) = mi % pw g * pw g := shl_wrap (by omega) (by omega)
      have e6 : IntKind.i64.wrap (mi % pw g * pw g + lo % pw g) = a * b % pw k := by rw [← r2]; exact IntWalk.i64_in _ (by omega)
      clear sm r1 r2 hlq' hmq'
      have HL := Lib.hid hlo
      clear hlo
      have E1 := Lib.hid (show halfHi k a b = a * b / pw k by unfold halfHi; rw [HV.out]; rfl)
      have E2 := Lib.hid (show halfLo k a b = a * b % pw k by unfold halfLo; rw [HV.out]; rfl)
      go_enter Try.func35, Try.ntmps35
      go_wp2_with ((go_at_call 49; refine (both_any _ _ _ _).mono ?_; rintro e w' ⟨rfl, rfl⟩))
      go_quiet (fail)
      go_wp2_with fail
      go_ret3
      exact ⟨ret_tup E1.out.symm E2.out.symm HV.out.symm, below_drewN (Below.refl _ _) _⟩
    · have he' : k % 2 = 1 := by omega
      have hv : vH k a b = false := by unfold vH; simp [he]
      have HV := Lib.hid hv
      clear hv
      have E1 := Lib.hid (show halfHi k a b = -1 by unfold halfHi; rw [HV.out]; rfl)
      have E2 := Lib.hid (show halfLo k a b = -1 by unfold halfLo; rw [HV.out]; rfl)
      go_enter Try.func35, Try.ntmps35
      go_wp2_with ((go_at_call 49; refine (both_any _ _ _ _).mono ?_; rintro e w' ⟨rfl, rfl⟩))
      go_ret3
      exact ⟨ret_tup E1.out.symm E2.out.symm HV.out.symm, Below.refl _ _⟩
  · have h : v2 k a b = false := by simpa using h
    have HV := Lib.hid (show vH k a b = false by unfold vH; rw [h]; rfl)
    have E1 := Lib.hid (show halfHi k a b = -1 by unfold halfHi; rw [HV.out]; rfl)
    have E2 := Lib.hid (show halfLo k a b = -1 by unfold halfLo; rw [HV.out]; rfl)
    go_enter Try.func35, Try.ntmps35
    go_wp2_with ((go_at_call 49; refine (both_any _ _ _ _).mono ?_; rintro e w' ⟨rfl, rfl⟩))
    go_ret3
    exact ⟨ret_tup E1.out.symm E2.out.symm HV.out.symm, Below.refl _ _⟩
end Go.Proofs.Ytijabkdnciopjaa