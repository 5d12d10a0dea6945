/-
  Proved: FnAddFits: Sums of different signs fit. In full: If just one of both words has the highest bit, it holds; otherwise it holds exactly if the sum has it as both have; and this is told by the last two carries being the same. (P82) It returns true for all arguments, and they read afterwards as before. Conditions: none.
-/
import Derived.Test.YtnlbomenmnbfpaaAlive
import Derived.Test.YtnlbomenmnbfpaaAdd
import Derived.Test.YtnlbomenmnbfpaaRows
import Derived.WalkKit
import Derived.ProofKit
import Derived.OpenShut
import Derived.ShutString
import Derived.ChangeOld
import Derived.Below
import Derived.Carry
namespace Go.Proofs.Ytnlbomenmnbfpaa.fnAddFits
open Go Go.ChangeShapes Go.WideShapes Go.ChangeAt Go.RowKit Bw
open Go.ChangeMaps (open_string shut_string)
set_option linter.unusedVariables false

theorem own : ownKnob Try.prog.godebug = none := by kernel_rfl
theorem laidOut : laidOutB Try.prog = true := by kernel_rfl
theorem over_l {P : Program} {f : FuncId} {args : Array Value} {W w : World} {l : List Int} (hb : Below W.heap.size W w)
    (h : Calls P f args w fun e w' => LRet l w e w') : Calls P f args w fun e w' => ∃ v, e = .returned v ∧ Own w' w.heap.size v l ∧ Below W.heap.size W w' :=
  h.mono fun _ _ ⟨v, he, ho, h⟩ => ⟨v, he, ho, hb.trans (h.mono hb.size)⟩
theorem form_lo {k j : Nat} {a b c : Int} {w' : World} {B : Nat} {v : Value} {l : List Int} (hj : j ≤ k) (hl : l = tab (carry a b c) (k + 1)) (ho : Own w' B v l) :
    ∃ g cap, v = .slice (some ⟨g, 0, none⟩) (k + 1) cap ∧ w'.cell? ⟨g, j, none⟩ = some (.int .i64 (carry a b c j)) := by
  subst hl
  obtain ⟨g, cap, rfl, _, hcell⟩ := own_cell ho (tab_ne _ _)
  have hx := hcell j (by rw [tab_len]; omega)
  rw [tab_get _ _ _ (by omega)] at hx
  rw [tab_len]
  exact ⟨g, cap, rfl, hx⟩
theorem walk (a0 : Option Addr) (len0 cap0 : Nat) (z0 : List Int) (w : World) (w0 : IsRow .u8 w a0 len0 cap0 z0) :
    Calls Try.prog 12 #[.slice a0 len0 cap0] w fun e w' => e = .returned (.bool true) ∧ Below w.heap.size w w' := by
  by_cases hbig : (1048576 : Int) < (len0 : Int)
  · go_enter Try.func12, Try.ntmps12
    go_wp2_with fail
    go_ret
    exact ⟨rfl, Below.refl _ _⟩
  · go_enter Try.func12, Try.ntmps12
    go_wp2_with fail
    refine (drawAddFits _ _ _ z0 _ w0).mono ?_
    rintro e wd ⟨k, x, y, rfl, hk, hx, hy, hb⟩
    by_cases hv : v2 k x y = true
    · obtain ⟨h1, h2, h3, h4, h5, h6, h12⟩ := v2_bd hv
      obtain ⟨hvx, hvy⟩ := v2_iff.mp hv
      obtain ⟨T, rfl⟩ : ∃ T : Nat, k = (T : Int) + 1 := ⟨(k - 1).toNat, by omega⟩
      have hft := fits_top hv
      have et : (T : Int) + 1 - 1 = (T : Int) := by omega
      have ek : ((T : Int) + 1).toNat = T + 1 := by omega
      rw [et, ek, Int.toNat_natCast] at hft
      have hf := Lib.hid (show carriesF ((T : Int) + 1) x y 0 = tab (carry x y 0) (T + 1 + 1) by unfold carriesF carriesL; rw [hv, ek]; rfl)
      have hX := (vX_iff.mp (wadd_ok hv)).2.2.1
      have we := wadd_eq hv
      rw [we] at hX
      obtain ⟨X, hXX⟩ : ∃ X, (x + y) % pw ((T : Int) + 1) = X := ⟨_, rfl⟩
      rw [hXX] at hft hX we
      obtain ⟨a1, ha1⟩ : ∃ a, x / 2 ^ T = a := ⟨_, rfl⟩
      obtain ⟨b1, hb1⟩ : ∃ a, y / 2 ^ T = a := ⟨_, rfl⟩
      obtain ⟨s1, hs1⟩ : ∃ a, X / 2 ^ T = a := ⟨_, rfl⟩
      obtain ⟨c1, hcc1⟩ : ∃ a, carry x y 0 (T + 1) = a := ⟨_, rfl⟩
      obtain ⟨c0, hcc0⟩ : ∃ a, carry x y 0 T = a := ⟨_, rfl⟩
      have pwT : pw (T : Int) = 2 ^ T := by simp [pw]
      rw [pwT, ha1, hb1, hs1, hcc1, hcc0] at hft
      have K1 := Lib.hid hcc1
      have K0 := Lib.hid hcc0
      have tt : (T : Int) ≤ 11 := by omega
      have t0 : (0 : Int) ≤ (T : Int) := by omega
      have l1 : (T : Int) < ((T + 1 + 1 : Nat) : Int) := by omega
      have l2 : (T : Int) + 1 < ((T + 1 + 1 : Nat) : Int) := by omega
      have l3 : (((T + 1 + 1 : Nat) : Int) == (T : Int) + 1 + 1) = true := by simp
      have l4 := IntWalk.i64_in ((T : Int) + 1 + 1) (by omega)
      clear pwT hXX hcc1 hcc0 ek et
      by_cases hA : a1 = b1
      · by_cases hS : s1 = a1
        · by_cases hC : c1 = c0
          · have q1 : (a1 != b1) = false := by simpa using hA
            have q2 : (s1 == a1) = true := by simpa using hS
            have q3 : (c1 == c0) = true := by simpa using hC
            have e0 : fits ((T : Int) + 1) x y = true := by exact hft.2.mpr hC
            clear hv hft hA hS hC
            go_wp2_with (first | (go_at_call 53; refine (over hb (fitsI_any _ _ _ _)).mono ?_; rintro e w' ⟨rfl, hb⟩) | (go_at_call 54; refine (fitsS_any _ _ _ _).mono ?_; rintro e w' ⟨rfl, rfl⟩) | (go_at_call 25; refine (over hb (waddI_any _ _ _ _)).mono ?_; rintro e w' ⟨rfl, hb⟩) | (go_at_call 48; refine (validS_any _ _ _).mono ?_; rintro e w' ⟨rfl, rfl⟩) | (go_at_call 19; refine (over hb (alive_any _)).mono ?_; rintro e w' ⟨rfl, hb⟩))
            refine (over_l hb (carriesI_any _ _ _ _ _)).mono ?_
            rintro e w1 ⟨v, he, ho, hb⟩
            obtain ⟨g, cap, hvv, hc1⟩ := form_of (w := w) (k := T + 1) (a := x) (b := y) (c := 0) hf.out ho
            obtain ⟨g', cap', hvv', hc0⟩ := form_lo (k := T + 1) (a := x) (b := y) (c := 0) (j := T) (by omega) hf.out ho
            obtain ⟨rfl, rfl⟩ : g' = g ∧ cap' = cap := by rw [hvv] at hvv'; injection hvv' with p1 p2 p3; injection p1 with p1; injection p1 with p1; exact ⟨p1.symm, p3.symm⟩
            rw [hvv] at he
            obtain rfl := he
            rw [K1.out] at hc1
            rw [K0.out] at hc0
            clear ho hvv hvv'
            go_wp2_with fail
            go_quiet (fail)
            go_wp2
            go_ret
            exact ⟨rfl, below_drewN hb _⟩
          · exfalso; have g1 := hft.1; have g2 := hft.2; have : (a1 ≠ b1 ∨ s1 = a1) ↔ c1 = c0 := g1.symm.trans g2; omega
        · by_cases hC : c1 = c0
          · exfalso; have g1 := hft.1; have g2 := hft.2; have : (a1 ≠ b1 ∨ s1 = a1) ↔ c1 = c0 := g1.symm.trans g2; omega
          · have q1 : (a1 != b1) = false := by simpa using hA
            have q2 : (s1 == a1) = false := by simpa using hS
            have q3 : (c1 == c0) = false := by simpa using hC
            have e0 : fits ((T : Int) + 1) x y = false := by rw [← Bool.not_eq_true]; exact fun h => hC (hft.2.mp h)
            clear hv hft hA hS hC
            go_wp2_with (first | (go_at_call 53; refine (over hb (fitsI_any _ _ _ _)).mono ?_; rintro e w' ⟨rfl, hb⟩) | (go_at_call 54; refine (fitsS_any _ _ _ _).mono ?_; rintro e w' ⟨rfl, rfl⟩) | (go_at_call 25; refine (over hb (waddI_any _ _ _ _)).mono ?_; rintro e w' ⟨rfl, hb⟩) | (go_at_call 48; refine (validS_any _ _ _).mono ?_; rintro e w' ⟨rfl, rfl⟩) | (go_at_call 19; refine (over hb (alive_any _)).mono ?_; rintro e w' ⟨rfl, hb⟩))
            refine (over_l hb (carriesI_any _ _ _ _ _)).mono ?_
            rintro e w1 ⟨v, he, ho, hb⟩
            obtain ⟨g, cap, hvv, hc1⟩ := form_of (w := w) (k := T + 1) (a := x) (b := y) (c := 0) hf.out ho
            obtain ⟨g', cap', hvv', hc0⟩ := form_lo (k := T + 1) (a := x) (b := y) (c := 0) (j := T) (by omega) hf.out ho
            obtain ⟨rfl, rfl⟩ : g' = g ∧ cap' = cap := by rw [hvv] at hvv'; injection hvv' with p1 p2 p3; injection p1 with p1; injection p1 with p1; exact ⟨p1.symm, p3.symm⟩
            rw [hvv] at he
            obtain rfl := he
            rw [K1.out] at hc1
            rw [K0.out] at hc0
            clear ho hvv hvv'
            go_wp2_with fail
            go_quiet (fail)
            go_wp2
            go_ret
            exact ⟨rfl, below_drewN hb _⟩
      · by_cases hS : s1 = a1
        · by_cases hC : c1 = c0
          · have q1 : (a1 != b1) = true := by simpa using hA
            have q2 : (s1 == a1) = true := by simpa using hS
            have q3 : (c1 == c0) = true := by simpa using hC
            have e0 : fits ((T : Int) + 1) x y = true := by exact hft.2.mpr hC
            clear hv hft hA hS hC
            go_wp2_with (first | (go_at_call 53; refine (over hb (fitsI_any _ _ _ _)).mono ?_; rintro e w' ⟨rfl, hb⟩) | (go_at_call 54; refine (fitsS_any _ _ _ _).mono ?_; rintro e w' ⟨rfl, rfl⟩) | (go_at_call 25; refine (over hb (waddI_any _ _ _ _)).mono ?_; rintro e w' ⟨rfl, hb⟩) | (go_at_call 48; refine (validS_any _ _ _).mono ?_; rintro e w' ⟨rfl, rfl⟩) | (go_at_call 19; refine (over hb (alive_any _)).mono ?_; rintro e w' ⟨rfl, hb⟩))
            refine (over_l hb (carriesI_any _ _ _ _ _)).mono ?_
            rintro e w1 ⟨v, he, ho, hb⟩
            obtain ⟨g, cap, hvv, hc1⟩ := form_of (w := w) (k := T + 1) (a := x) (b := y) (c := 0) hf.out ho
            obtain ⟨g', cap', hvv', hc0⟩ := form_lo (k := T + 1) (a := x) (b := y) (c := 0) (j := T) (by omega) hf.out ho
            obtain ⟨rfl, rfl⟩ : g' = g ∧ cap' = cap := by rw [hvv] at hvv'; injection hvv' with p1 p2 p3; injection p1 with p1; injection p1 with p1; exact ⟨p1.symm, p3.symm⟩
            rw [hvv] at he
            obtain rfl := he
            rw [K1.out] at hc1
            rw [K0.out] at hc0
            clear ho hvv hvv'
            go_wp2_with fail
            go_quiet (fail)
            go_wp2
            go_ret
            exact ⟨rfl, below_drewN hb _⟩
          · exfalso; have g1 := hft.1; have g2 := hft.2; have : (a1 ≠ b1 ∨ s1 = a1) ↔ c1 = c0 := g1.symm.trans g2; omega
        · by_cases hC : c1 = c0
          · have q1 : (a1 != b1) = true := by simpa using hA
            have q2 : (s1 == a1) = false := by simpa using hS
            have q3 : (c1 == c0) = true := by simpa using hC
            have e0 : fits ((T : Int) + 1) x y = true := by exact hft.2.mpr hC
            clear hv hft hA hS hC
            go_wp2_with (first | (go_at_call 53; refine (over hb (fitsI_any _ _ _ _)).mono ?_; rintro e w' ⟨rfl, hb⟩) | (go_at_call 54; refine (fitsS_any _ _ _ _).mono ?_; rintro e w' ⟨rfl, rfl⟩) | (go_at_call 25; refine (over hb (waddI_any _ _ _ _)).mono ?_; rintro e w' ⟨rfl, hb⟩) | (go_at_call 48; refine (validS_any _ _ _).mono ?_; rintro e w' ⟨rfl, rfl⟩) | (go_at_call 19; refine (over hb (alive_any _)).mono ?_; rintro e w' ⟨rfl, hb⟩))
            refine (over_l hb (carriesI_any _ _ _ _ _)).mono ?_
            rintro e w1 ⟨v, he, ho, hb⟩
            obtain ⟨g, cap, hvv, hc1⟩ := form_of (w := w) (k := T + 1) (a := x) (b := y) (c := 0) hf.out ho
            obtain ⟨g', cap', hvv', hc0⟩ := form_lo (k := T + 1) (a := x) (b := y) (c := 0) (j := T) (by omega) hf.out ho
            obtain ⟨rfl, rfl⟩ : g' = g ∧ cap' = cap := by rw [hvv] at hvv'; injection hvv' with p1 p2 p3; injection p1 with p1; injection p1 with p1; exact ⟨p1.symm, p3.symm⟩
            rw [hvv] at he
            obtain rfl := he
            rw [K1.out] at hc1
            rw [K0.out] at hc0
            clear ho hvv hvv'
            go_wp2_with fail
            go_quiet (fail)
            go_wp2
            go_ret
            exact ⟨rfl, below_drewN hb _⟩
          · exfalso; have g1 := hft.1; have g2 := hft.2; have : (a1 ≠ b1 ∨ s1 = a1) ↔ c1 = c0 := g1.symm.trans g2; omega
    · have hv : v2 k x y = false := by simpa using hv
      by_cases hvx : vX k x = true
      · have hvy : vX k y = false := by unfold v2 at hv; rw [hvx] at hv; simpa using hv
        have e0 : fits k x y = false := by unfold fits; rw [hv]; rfl
        clear hv
        go_wp2_with (first | (go_at_call 53; refine (over hb (fitsI_any _ _ _ _)).mono ?_; rintro e w' ⟨rfl, hb⟩) | (go_at_call 54; refine (fitsS_any _ _ _ _).mono ?_; rintro e w' ⟨rfl, rfl⟩) | (go_at_call 25; refine (over hb (waddI_any _ _ _ _)).mono ?_; rintro e w' ⟨rfl, hb⟩) | (go_at_call 48; refine (validS_any _ _ _).mono ?_; rintro e w' ⟨rfl, rfl⟩) | (go_at_call 19; refine (over hb (alive_any _)).mono ?_; rintro e w' ⟨rfl, hb⟩))
        go_ret
        exact ⟨rfl, hb⟩
      · have hvx : vX k x = false := by simpa using hvx
        have e0 : fits k x y = false := by unfold fits; rw [hv]; rfl
        clear hv
        go_wp2_with (first | (go_at_call 53; refine (over hb (fitsI_any _ _ _ _)).mono ?_; rintro e w' ⟨rfl, hb⟩) | (go_at_call 54; refine (fitsS_any _ _ _ _).mono ?_; rintro e w' ⟨rfl, rfl⟩) | (go_at_call 25; refine (over hb (waddI_any _ _ _ _)).mono ?_; rintro e w' ⟨rfl, hb⟩) | (go_at_call 48; refine (validS_any _ _ _).mono ?_; rintro e w' ⟨rfl, rfl⟩) | (go_at_call 19; refine (over hb (alive_any _)).mono ?_; rintro e w' ⟨rfl, hb⟩))
        go_ret
        exact ⟨rfl, hb⟩

set_option maxRecDepth 100000 in
theorem lifted (os : Os) (started : os.Started) (H : Type) (enc : TypeId × Value → H) :
    ReturnsInHanded {} Try.checked os 12 .any (Rows.fnAddFitsSpec.pre6 enc Try.prog Try.f12 Rows.fnAddFitsRow.domain false) (Rows.fnAddFitsSpec.post enc Try.prog Try.f12 false true false false) := by
  refine returnsInHanded_of_change (C := Try.checked) own started (by kernel_rfl) Try.func12
    (ChangeSpec.witness6 (enc := enc) (C := Try.checked) false ⟨#[], #[.slice none 0 0], []⟩ 8 (by kernel_rfl) (by kernel_rfl) (by kernel_rfl) (by kernel_rfl)) ?_
  intro W base args ds gs before hval0 hW hcnd _
  have hval : ∀ (j : Nat) t v, Try.f12.params[j]? = some t → args[j]? = some v → Value.okWide Try.prog W .any base t v := hval0
  have hW' := hW
  obtain ⟨p, q, hA0, hV, rfl, hfz, hnd⟩ := hW
  have hA : DataW.TrodAll enc Try.prog W 0 (fun _ => true) true Try.f12.params.toList args.toList ds p := hA0
  rw [Try.params12] at hA hval
  obtain ⟨v0, vs0, d0, ds0, p0, q0, hargs, rfl, rfl, h0, r0⟩ := trodAll_cons hA
  obtain ⟨rfl, rfl, rfl⟩ := trodAll_nil r0
  obtain rfl : args = #[v0] := by cases args; simp_all
  obtain ⟨rfl, rfl⟩ := trodVars_none hV
  obtain ⟨a0, len0, cap0, rfl⟩ := okWide_slice Try.underlying22 (hval 0 22 v0 rfl rfl)
  have k0 := h0
  have lt0 : ∀ x ∈ p0, x.block < W.heap.size := by obtain ⟨m, hm⟩ := k0; exact DataW.trod_lt m _ _ _ hm
  obtain ⟨z0, w0⟩ : ∃ zs, IsRow .u8 W a0 len0 cap0 zs := by
    obtain ⟨fuel, hf⟩ := h0
    rcases open_ints Try.underlying22 Try.underlying5 (by kernel_rfl) hf with ⟨hcs, _⟩ | ⟨x, l, c, zs, hcs, _, hl, hm, hz, _, hcell, hwz⟩
    · simp [Value.cells] at hcs
      obtain ⟨rfl, rfl, rfl⟩ := hcs
      exact ⟨[], .inl ⟨rfl, rfl, rfl, rfl⟩⟩
    · simp [Value.cells] at hcs
      obtain ⟨rfl, rfl, rfl⟩ := hcs
      exact ⟨zs, .inr ⟨_, rfl, hl, hm, by simpa using hz, hcell, hwz⟩⟩
  clear hA0 hval0
  refine (walk a0 len0 cap0 z0 W w0).mono fun e W' ⟨he, bel⟩ => ?_
  subst he
  exact ⟨_, rfl, _, _, _, [], _, [], hW', trodAll_mk1 (shut_bool Try.underlying4 _), (trodAll_cons_mk (Below.trod laidOut (by kernel_rfl) (of_decide_eq_true (by kernel_rfl)) k0 bel lt0) trodAll_mk0), rfl, bel.frame _, fun h => by cases h⟩

theorem over : Rows.fnAddFitsRow.holds Try.pinned (OpenSpec.ofChange Rows.fnAddFitsSpec) :=
  OpenClaim.holds_of_wide 12 Try.f12 rfl rfl rfl rfl rfl rfl rfl ⟨rfl, rfl, rfl, rfl, rfl⟩ rfl rfl rfl rfl rfl (by kernel_rfl) Try.func12 (by kernel_rfl)
    (of_decide_eq_true (by kernel_rfl)) (by unfold Func.isWrapper; first | (rw [if_pos (by decide +kernel)]; kernel_rfl) | (rw [if_neg (by decide +kernel)]; exact ⟨rfl, rfl⟩))
    (fun os started H enc _ => lifted os started H enc)

theorem proved : Rows.FnAddFitsSaid := over
#print axioms proved
end Go.Proofs.Ytnlbomenmnbfpaa.fnAddFits
