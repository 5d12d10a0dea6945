/-
  Proved: FnWordDown: Lower with a sign is a quotient rounded down. In full: With a sign it is the word with a sign, divided by 2 to the power of the places, rounded down. (P75) It returns true for all arguments, and they read afterwards as before. Conditions: none.
-/
import Derived.Test.YtnlbomenmnbfpaaAlive
import Derived.Test.YtnlbomenmnbfpaaRows
import Derived.WalkKit
import Derived.ProofKit
import Derived.OpenShut
import Derived.ShutString
import Derived.ChangeOld
import Derived.Below
import Derived.Carry
namespace Go.Proofs.Ytnlbomenmnbfpaa.fnWordDown
open Go Go.ChangeShapes Go.WideShapes Go.ChangeAt Go.RowKit Bw
open Go.ChangeMaps (open_string shut_string)
set_option linter.unusedVariables false

theorem own : ownKnob Try.prog.godebug = none := by kernel_rfl
theorem laidOut : laidOutB Try.prog = true := by kernel_rfl

theorem walk (a0 : Option Addr) (len0 cap0 : Nat) (z0 : List Int) (w : World) (w0 : IsRow .u8 w a0 len0 cap0 z0) :
    Calls Try.prog 11 #[.slice a0 len0 cap0] w fun e w' => e = .returned (.bool true) ∧ Below w.heap.size w w' := by
  by_cases hbig : (1048576 : Int) < (len0 : Int)
  · go_enter Try.func11, Try.ntmps11
    go_wp2_with fail
    go_ret
    exact ⟨rfl, Below.refl _ _⟩
  · go_enter Try.func11, Try.ntmps11
    go_wp2_with fail
    refine (drawWordDown _ _ _ z0 _ w0).mono ?_
    rintro e wd ⟨k, x, y, rfl, hk, hx, hy, hb⟩
    by_cases hv : vK k x y = true
    · obtain ⟨hvx, hvy⟩ := vK_iff.mp hv
      obtain ⟨n0, n1⟩ := vB_iff.mp hvy
      obtain ⟨d1, d2⟩ := down_ok hv
      have e1 := signedOf_eq hvx
      have e2 := signedOf_eq d1
      have bd := div_bd (sg k x) y
      rw [← d2] at bd
      have b1 := sg_bd12 hvx
      have b2 := sg_bd12 d1
      have hX0 := (vX_iff.mp d1).2.2.1
      have hp := pw_pos y
      have hp12 := pw_le12 n1
      obtain ⟨X, hX⟩ : ∃ X, wdown k x y = X := ⟨_, rfl⟩
      rw [hX] at d1 d2 e2 bd b2 hX0
      obtain ⟨N, hN⟩ : ∃ N, sg k x = N := ⟨_, rfl⟩
      rw [hN] at e1 bd b1
      obtain ⟨S, hS⟩ : ∃ S, sg k X = S := ⟨_, rfl⟩
      rw [hS] at e2 bd b2
      have g1 : -8388608 ≤ S * pw y ∧ S * pw y ≤ 8388608 := by
        have a1 : S * pw y ≤ 2048 * pw y := Int.mul_le_mul_of_nonneg_right (by omega) (by omega)
        have a2 : -2048 * pw y ≤ S * pw y := Int.mul_le_mul_of_nonneg_right (by omega) (by omega)
        omega
      have g2 : -8388608 ≤ (S + 1) * pw y ∧ (S + 1) * pw y ≤ 8388608 := by
        have a1 : (S + 1) * pw y ≤ 2048 * pw y := Int.mul_le_mul_of_nonneg_right (by omega) (by omega)
        have a2 : -2048 * pw y ≤ (S + 1) * pw y := Int.mul_le_mul_of_nonneg_right (by omega) (by omega)
        omega
      have e3 : IntKind.i64.wrap (S * 2 ^ y.toNat) = S * pw y := shl_wrap (by omega) (by omega)
      have e4 : IntKind.i64.wrap ((S + 1) * 2 ^ y.toNat) = (S + 1) * pw y := shl_wrap (by omega) (by omega)
      obtain ⟨bd1, bd2⟩ := bd
      clear hv hvx hvy g1 g2 hN hS d2
      go_wp2_with (first | (go_at_call 50; refine (over hb (wdownI_any _ _ _ _)).mono ?_; rintro e w' ⟨rfl, hb⟩) | (go_at_call 51; refine (wdownS_any _ _ _ _).mono ?_; rintro e w' ⟨rfl, rfl⟩) | (go_at_call 27; refine (signedOfI_any _ _ _).mono ?_; rintro e w' ⟨rfl, rfl⟩) | (go_at_call 31; refine (validI_any _ _ _).mono ?_; rintro e w' ⟨rfl, rfl⟩) | (go_at_call 19; refine (over hb (alive_any _)).mono ?_; rintro e w' ⟨rfl, hb⟩))
      go_ret
      exact ⟨rfl, hb⟩
    · have hv : vK k x y = false := by simpa using hv
      have e0 : wdown k x y = -1 := by unfold wdown; rw [hv]; rfl
      go_wp2_with (first | (go_at_call 50; refine (over hb (wdownI_any _ _ _ _)).mono ?_; rintro e w' ⟨rfl, hb⟩) | (go_at_call 51; refine (wdownS_any _ _ _ _).mono ?_; rintro e w' ⟨rfl, rfl⟩) | (go_at_call 27; refine (signedOfI_any _ _ _).mono ?_; rintro e w' ⟨rfl, rfl⟩) | (go_at_call 31; refine (validI_any _ _ _).mono ?_; rintro e w' ⟨rfl, rfl⟩) | (go_at_call 19; refine (over hb (alive_any _)).mono ?_; rintro e w' ⟨rfl, hb⟩))
      go_ret
      exact ⟨rfl, hb⟩

set_option maxRecDepth 100000 in
theorem lifted (os : Os) (started : os.Started) (H : Type) (enc : TypeId × Value → H) :
    ReturnsInHanded {} Try.checked os 11 .any (Rows.fnWordDownSpec.pre6 enc Try.prog Try.f11 Rows.fnWordDownRow.domain false) (Rows.fnWordDownSpec.post enc Try.prog Try.f11 false true false false) := by
  refine returnsInHanded_of_change (C := Try.checked) own started (by kernel_rfl) Try.func11
    (ChangeSpec.witness6 (enc := enc) (C := Try.checked) false ⟨#[], #[.slice none 0 0], []⟩ 8 (by kernel_rfl) (by kernel_rfl) (by kernel_rfl) (by kernel_rfl)) ?_
  intro W base args ds gs before hval0 hW hcnd _
  have hval : ∀ (j : Nat) t v, Try.f11.params[j]? = some t → args[j]? = some v → Value.okWide Try.prog W .any base t v := hval0
  have hW' := hW
  obtain ⟨p, q, hA0, hV, rfl, hfz, hnd⟩ := hW
  have hA : DataW.TrodAll enc Try.prog W 0 (fun _ => true) true Try.f11.params.toList args.toList ds p := hA0
  rw [Try.params11] at hA hval
  obtain ⟨v0, vs0, d0, ds0, p0, q0, hargs, rfl, rfl, h0, r0⟩ := trodAll_cons hA
  obtain ⟨rfl, rfl, rfl⟩ := trodAll_nil r0
  obtain rfl : args = #[v0] := by cases args; simp_all
  obtain ⟨rfl, rfl⟩ := trodVars_none hV
  obtain ⟨a0, len0, cap0, rfl⟩ := okWide_slice Try.underlying22 (hval 0 22 v0 rfl rfl)
  have k0 := h0
  have lt0 : ∀ x ∈ p0, x.block < W.heap.size := by obtain ⟨m, hm⟩ := k0; exact DataW.trod_lt m _ _ _ hm
  obtain ⟨z0, w0⟩ : ∃ zs, IsRow .u8 W a0 len0 cap0 zs := by
    obtain ⟨fuel, hf⟩ := h0
    rcases open_ints Try.underlying22 Try.underlying5 (by kernel_rfl) hf with ⟨hcs, _⟩ | ⟨x, l, c, zs, hcs, _, hl, hm, hz, _, hcell, hwz⟩
    · simp [Value.cells] at hcs
      obtain ⟨rfl, rfl, rfl⟩ := hcs
      exact ⟨[], .inl ⟨rfl, rfl, rfl, rfl⟩⟩
    · simp [Value.cells] at hcs
      obtain ⟨rfl, rfl, rfl⟩ := hcs
      exact ⟨zs, .inr ⟨_, rfl, hl, hm, by simpa using hz, hcell, hwz⟩⟩
  clear hA0 hval0
  refine (walk a0 len0 cap0 z0 W w0).mono fun e W' ⟨he, bel⟩ => ?_
  subst he
  exact ⟨_, rfl, _, _, _, [], _, [], hW', trodAll_mk1 (shut_bool Try.underlying4 _), (trodAll_cons_mk (Below.trod laidOut (by kernel_rfl) (of_decide_eq_true (by kernel_rfl)) k0 bel lt0) trodAll_mk0), rfl, bel.frame _, fun h => by cases h⟩

theorem over : Rows.fnWordDownRow.holds Try.pinned (OpenSpec.ofChange Rows.fnWordDownSpec) :=
  OpenClaim.holds_of_wide 11 Try.f11 rfl rfl rfl rfl rfl rfl rfl ⟨rfl, rfl, rfl, rfl, rfl⟩ rfl rfl rfl rfl rfl (by kernel_rfl) Try.func11 (by kernel_rfl)
    (of_decide_eq_true (by kernel_rfl)) (by unfold Func.isWrapper; first | (rw [if_pos (by decide +kernel)]; kernel_rfl) | (rw [if_neg (by decide +kernel)]; exact ⟨rfl, rfl⟩))
    (fun os started H enc _ => lifted os started H enc)

theorem proved : Rows.FnWordDownSaid := over
#print axioms proved
end Go.Proofs.Ytnlbomenmnbfpaa.fnWordDown
