/-
  Proved: FnCarryKinds: Kinds are the same for both exchanged. In full: There is one for each bit; of a word and its negation all pass on. (P79) It returns true for all arguments, and they read afterwards as before. Conditions: none.
-/
import Derived.Test.YtnlbomenmnbfpaaAlive
import Derived.Test.YtnlbomenmnbfpaaListsB
import Derived.Test.YtnlbomenmnbfpaaSame
import Derived.Test.YtnlbomenmnbfpaaRows
import Derived.WalkKit
import Derived.ProofKit
import Derived.OpenShut
import Derived.ShutString
import Derived.ChangeOld
import Derived.Below
import Derived.Carry
namespace Go.Proofs.Ytnlbomenmnbfpaa.fnCarryKinds
open Go Go.ChangeShapes Go.WideShapes Go.ChangeAt Go.RowKit Bw
open Go.ChangeMaps (open_string shut_string)
set_option linter.unusedVariables false

theorem own : ownKnob Try.prog.godebug = none := by kernel_rfl
theorem laidOut : laidOutB Try.prog = true := by kernel_rfl
theorem bt_neg (x : Int) (j : Nat) : bt (-1 - x) j = 1 - bt x j := by
  have hp := pw_pos j
  obtain ⟨h1, h2, h3⟩ := (Int.ediv_emod_unique (a := x) (q := x / pw j) (r := x % pw j) hp).mp ⟨rfl, rfl⟩
  have hq : (-1 - x) / pw j = -1 - x / pw j := by
    refine ((Int.ediv_emod_unique (a := -1 - x) (q := -1 - x / pw j) (r := pw j - 1 - x % pw j) hp).mpr ⟨?_, by omega, by omega⟩).1
    rw [Int.mul_sub]; omega
  unfold bt
  rw [hq]
  omega
theorem kinds_pass {K : Nat} {x : Int} (hx : vX K x = true) (j : Nat) (hj : j < K) : (kindsF K x (wnot K x)).getD j 0 = 1 := by
  unfold kindsF
  rw [v2_mk hx (vX_wnot hx)]
  show (kindsL K x (wnot K x)).getD j 0 = 1
  have e : kindsL K x (wnot K x) = tab (kind x (wnot K x)) K := by unfold kindsL tab; rw [Int.toNat_natCast]
  rw [e, tab_get _ _ _ hj, wnot_eq hx]
  unfold kind
  rw [show pw (K : Int) - 1 - x = 1 * pw (K : Int) + (-1 - x) by omega, bt_low hj, bt_neg]
  omega
theorem kindsF_full {K : Nat} {x y : Int} (h : v2 K x y = true) : (kindsF K x y).length = K := by
  unfold kindsF; rw [h]; simp [kindsL]
theorem kindsF_swap (k x y : Int) : kindsF k y x = kindsF k x y := by
  have e : v2 k y x = v2 k x y := by unfold v2; exact Bool.and_comm _ _
  unfold kindsF; rw [e]; split
  · unfold kindsL; congr 1; funext j; unfold kind; omega
  · rfl
theorem walk (a0 : Option Addr) (len0 cap0 : Nat) (z0 : List Int) (w : World) (w0 : IsRow .u8 w a0 len0 cap0 z0) :
    Calls Try.prog 8 #[.slice a0 len0 cap0] w fun e w' => e = .returned (.bool true) ∧ Below w.heap.size w w' := by
  by_cases hbig : (1048576 : Int) < (len0 : Int)
  · go_enter Try.func8, Try.ntmps8
    go_wp2_with fail
    go_ret
    exact ⟨rfl, Below.refl _ _⟩
  · go_enter Try.func8, Try.ntmps8
    go_wp2_with fail
    refine (drawCarryKinds _ _ _ z0 _ w0).mono ?_
    rintro e wd ⟨k, x, y, rfl, hk, hx, hy, hb⟩
    by_cases hv : v2 k x y = true
    · obtain ⟨h1, h2, h3, h4, h5, h6, h12⟩ := v2_bd hv
      obtain ⟨hvx, hvy⟩ := v2_iff.mp hv
      obtain ⟨K, rfl⟩ : ∃ K : Nat, k = (K : Int) := ⟨k.toNat, by omega⟩
      have hP := kinds_pass hvx
      have hPl := kindsF_full (v2_mk hvx (vX_wnot hvx))
      have hLl := kindsF_full hv
      have HS := Lib.hid (kindsF_swap K x y)
      obtain ⟨N, hN⟩ : ∃ N, wnot K x = N := ⟨_, rfl⟩
      rw [hN] at hP hPl
      have HP := Lib.hid hP
      have HPl := Lib.hid hPl
      have HLl := Lib.hid hLl
      have kp : (0 : Int) < (K : Int) := by omega
      have kn : (K : Int) ≤ 12 := by omega
      clear hv hvx hvy hP hPl hLl
      go_wp2_with fail
      refine (over_l hb (kindsI_any _ _ _ _)).mono ?_
      rintro e w1 ⟨v0, rfl, ho0, _, hb⟩
      obtain ⟨g, cap, rfl, _, _⟩ := own_form ho0 HLl.out (by omega)
      go_wp2_with fail
      refine (over_l hb (kindsS_any _ _ _ _)).mono ?_
      rintro e w2 ⟨v1, rfl, HO1, hb1, hb⟩
      have R0 : Rd w2 _ _ := ho0.rd.below hb1
      have HL := HLl.out
      go_wp2_with fail
      refine (sameL_any _ _ _ _ R0 HO1.rd (by omega)).mono ?_
      rintro e w3 ⟨rfl, hb2⟩
      have R0 := R0.below hb2
      have hb := hb.trans (hb2.mono hb.size)
      clear HL
      go_wp2_with (first | (go_at_call 41; refine (wnotI_any _ _ _).mono ?_; rintro e w' ⟨rfl, rfl⟩))
      refine (over_l hb (kindsI_any _ _ _ _)).mono ?_
      rintro e w4 ⟨v3, rfl, ho3, hb3, hb⟩
      have R0 := R0.below hb3
      obtain ⟨g', cap', rfl, _, hc⟩ := own_form ho3 HPl.out (by omega)
      have HC := Lib.hid (fun j hj => (hc j hj).trans (by rw [HP.out j hj]) : ∀ j, j < K → w4.cell? ⟨g', j, none⟩ = some (.int .i64 1))
      clear hc
      go_wp2
      go_loop [8] (fun i => ∃ n : Nat, n ≤ K ∧ i = .int .i64 n) (fun i => K - (intOf i).toNat)
      case atStart => exact ⟨0, by omega, rfl⟩
      case round =>
        obtain ⟨n, hn, rfl⟩ := hrel
        by_cases hlt : n < K
        · have c1 := HC.out n hlt
          have n0 : (0 : Int) ≤ (n : Int) := by omega
          have n1 : (n : Int) < (K : Int) := by omega
          go_wp2
          go_round
          case rel => exact ⟨n + 1, by omega, by go_num⟩
          case measure => simp [intOf]; omega
        · obtain rfl : n = K := by omega
          go_wp2_with fail
          refine (over_l hb (kindsI_any _ _ _ _)).mono ?_
          rintro e w5 ⟨v4, rfl, ho4, hb4, hb⟩
          have R0 := R0.below hb4
          rw [HS.out] at ho4
          have HL := HLl.out
          go_wp2_with fail
          refine (sameL_any _ _ _ _ ho4.rd R0 (by omega)).mono ?_
          rintro e w6 ⟨rfl, hb2⟩
          clear HL
          have hb := hb.trans (hb2.mono hb.size)
          go_wp2
          go_ret
          exact ⟨rfl, hb⟩
    · have hv : v2 k x y = false := by simpa using hv
      have HL := Lib.hid (show kindsF k x y = [] by unfold kindsF; rw [hv]; rfl)
      clear hv
      go_wp2_with fail
      refine (over_l hb (kindsI_any _ _ _ _)).mono ?_
      rintro e w1 ⟨v0, rfl, ho0, _, hb⟩
      obtain ⟨a0', n0', c0', rfl, hn0⟩ : ∃ a n c, v0 = .slice a n c ∧ n = 0 := by
        rcases ho0.form with ⟨rfl, hl⟩ | ⟨g, cap, rfl, _, _⟩
        · exact ⟨_, _, _, rfl, rfl⟩
        · exact ⟨_, _, _, rfl, by rw [HL.out]; rfl⟩
      subst hn0
      go_wp2_with fail
      refine (over_l hb (kindsS_any _ _ _ _)).mono ?_
      rintro e w2 ⟨v1, rfl, HO1, hb1, hb⟩
      have R0 : Rd w2 _ _ := ho0.rd.below hb1
      have HL2 : (kindsF k x y).length = 0 := by rw [HL.out]; rfl
      go_wp2_with fail
      refine (sameL_any _ _ _ _ R0 HO1.rd (by omega)).mono ?_
      rintro e w3 ⟨rfl, hb2⟩
      have R0 := R0.below hb2
      have hb := hb.trans (hb2.mono hb.size)
      clear HL2
      go_wp2_with (first | (go_at_call 19; refine (over hb (alive_any _)).mono ?_; rintro e w' ⟨rfl, hb⟩))
      go_ret
      exact ⟨rfl, hb⟩

set_option maxRecDepth 100000 in
theorem lifted (os : Os) (started : os.Started) (H : Type) (enc : TypeId × Value → H) :
    ReturnsInHanded {} Try.checked os 8 .any (Rows.fnCarryKindsSpec.pre6 enc Try.prog Try.f8 Rows.fnCarryKindsRow.domain false) (Rows.fnCarryKindsSpec.post enc Try.prog Try.f8 false true false false) := by
  refine returnsInHanded_of_change (C := Try.checked) own started (by kernel_rfl) Try.func8
    (ChangeSpec.witness6 (enc := enc) (C := Try.checked) false ⟨#[], #[.slice none 0 0], []⟩ 8 (by kernel_rfl) (by kernel_rfl) (by kernel_rfl) (by kernel_rfl)) ?_
  intro W base args ds gs before hval0 hW hcnd _
  have hval : ∀ (j : Nat) t v, Try.f8.params[j]? = some t → args[j]? = some v → Value.okWide Try.prog W .any base t v := hval0
  have hW' := hW
  obtain ⟨p, q, hA0, hV, rfl, hfz, hnd⟩ := hW
  have hA : DataW.TrodAll enc Try.prog W 0 (fun _ => true) true Try.f8.params.toList args.toList ds p := hA0
  rw [Try.params8] at hA hval
  obtain ⟨v0, vs0, d0, ds0, p0, q0, hargs, rfl, rfl, h0, r0⟩ := trodAll_cons hA
  obtain ⟨rfl, rfl, rfl⟩ := trodAll_nil r0
  obtain rfl : args = #[v0] := by cases args; simp_all
  obtain ⟨rfl, rfl⟩ := trodVars_none hV
  obtain ⟨a0, len0, cap0, rfl⟩ := okWide_slice Try.underlying22 (hval 0 22 v0 rfl rfl)
  have k0 := h0
  have lt0 : ∀ x ∈ p0, x.block < W.heap.size := by obtain ⟨m, hm⟩ := k0; exact DataW.trod_lt m _ _ _ hm
  obtain ⟨z0, w0⟩ : ∃ zs, IsRow .u8 W a0 len0 cap0 zs := by
    obtain ⟨fuel, hf⟩ := h0
    rcases open_ints Try.underlying22 Try.underlying5 (by kernel_rfl) hf with ⟨hcs, _⟩ | ⟨x, l, c, zs, hcs, _, hl, hm, hz, _, hcell, hwz⟩
    · simp [Value.cells] at hcs
      obtain ⟨rfl, rfl, rfl⟩ := hcs
      exact ⟨[], .inl ⟨rfl, rfl, rfl, rfl⟩⟩
    · simp [Value.cells] at hcs
      obtain ⟨rfl, rfl, rfl⟩ := hcs
      exact ⟨zs, .inr ⟨_, rfl, hl, hm, by simpa using hz, hcell, hwz⟩⟩
  clear hA0 hval0
  refine (walk a0 len0 cap0 z0 W w0).mono fun e W' ⟨he, bel⟩ => ?_
  subst he
  exact ⟨_, rfl, _, _, _, [], _, [], hW', trodAll_mk1 (shut_bool Try.underlying4 _), (trodAll_cons_mk (Below.trod laidOut (by kernel_rfl) (of_decide_eq_true (by kernel_rfl)) k0 bel lt0) trodAll_mk0), rfl, bel.frame _, fun h => by cases h⟩

theorem over : Rows.fnCarryKindsRow.holds Try.pinned (OpenSpec.ofChange Rows.fnCarryKindsSpec) :=
  OpenClaim.holds_of_wide 8 Try.f8 rfl rfl rfl rfl rfl rfl rfl ⟨rfl, rfl, rfl, rfl, rfl⟩ rfl rfl rfl rfl rfl (by kernel_rfl) Try.func8 (by kernel_rfl)
    (of_decide_eq_true (by kernel_rfl)) (by unfold Func.isWrapper; first | (rw [if_pos (by decide +kernel)]; kernel_rfl) | (rw [if_neg (by decide +kernel)]; exact ⟨rfl, rfl⟩))
    (fun os started H enc _ => lifted os started H enc)

theorem proved : Rows.FnCarryKindsSaid := over
#print axioms proved
end Go.Proofs.Ytnlbomenmnbfpaa.fnCarryKinds
