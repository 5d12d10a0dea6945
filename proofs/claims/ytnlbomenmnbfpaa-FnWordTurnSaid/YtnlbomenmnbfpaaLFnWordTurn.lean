/-
  Proved: FnWordTurn: Turned round it is as before. In full: Turned by the rest of the width it is the word; no bit is lost. (P76) It returns true for all arguments, and they read afterwards as before. Conditions: none.
-/
import Derived.Test.YtnlbomenmnbfpaaAlive
import Derived.Test.YtnlbomenmnbfpaaRows
import Derived.WalkKit
import Derived.ProofKit
import Derived.OpenShut
import Derived.ShutString
import Derived.ChangeOld
import Derived.Below
import Derived.Carry
namespace Go.Proofs.Ytnlbomenmnbfpaa.fnWordTurn
open Go Go.ChangeShapes Go.WideShapes Go.ChangeAt Go.RowKit Bw
open Go.ChangeMaps (open_string shut_string)
set_option linter.unusedVariables false

theorem own : ownKnob Try.prog.godebug = none := by kernel_rfl
theorem laidOut : laidOutB Try.prog = true := by kernel_rfl

theorem walk (a0 : Option Addr) (len0 cap0 : Nat) (z0 : List Int) (w : World) (w0 : IsRow .u8 w a0 len0 cap0 z0) :
    Calls Try.prog 5 #[.slice a0 len0 cap0] w fun e w' => e = .returned (.bool true) ∧ Below w.heap.size w w' := by
  by_cases hbig : (1048576 : Int) < (len0 : Int)
  · go_enter Try.func5, Try.ntmps5
    go_wp2_with fail
    go_ret
    exact ⟨rfl, Below.refl _ _⟩
  · go_enter Try.func5, Try.ntmps5
    go_wp2_with fail
    refine (drawWordTurn _ _ _ z0 _ w0).mono ?_
    rintro e wd ⟨k, x, y, rfl, hk, hx, hy, hb⟩
    by_cases hv : vK k x y = true
    · obtain ⟨hvx, hvy⟩ := vK_iff.mp hv
      obtain ⟨h1, h2, h3, h4, h12⟩ := vX_bd hvx
      obtain ⟨n0, n1⟩ := vB_iff.mp hvy
      have r1 := turn_back hv
      have r2 := turn_ok hv
      have r3 := turn_pc hv
      have hX0 := (vX_iff.mp r2).2.2.1
      have m0 : 0 ≤ y % k := Int.emod_nonneg _ (by omega)
      have m1 : y % k < k := Int.emod_lt_of_pos _ (by omega)
      obtain ⟨X, hX⟩ : ∃ X, wturn k x y = X := ⟨_, rfl⟩
      rw [hX] at r1 r2 r3 hX0
      obtain ⟨K, rfl⟩ : ∃ K : Nat, k = (K : Int) := ⟨k.toNat, by omega⟩
      rw [Int.toNat_natCast] at r3
      have H3 := Lib.hid r3
      clear r3 hv hvx hvy
      go_wp2_with (first | (go_at_call 29; refine (over hb (wturnI_any _ _ _ _)).mono ?_; rintro e w' ⟨rfl, hb⟩) | (go_at_call 30; refine (over hb (wturnS_any _ _ _ _)).mono ?_; rintro e w' ⟨rfl, hb⟩) | (go_at_call 31; refine (validI_any _ _ _).mono ?_; rintro e w' ⟨rfl, rfl⟩) | (go_at_call 19; refine (over hb (alive_any _)).mono ?_; rintro e w' ⟨rfl, hb⟩))
      go_loop [7, 8, 9] (fun s t i => ∃ n : Nat, n ≤ K ∧ i = .int .i64 n ∧ s = .int .i64 (pc x n) ∧ t = .int .i64 (pc X n)) (fun _ _ i => K - (intOf i).toNat)
      case atStart => exact ⟨0, by omega, rfl, rfl, rfl⟩
      case round =>
        obtain ⟨n, hn, rfl, rfl, rfl⟩ := hrel
        have p1 := pc_bd x n
        have p2 := pc_bd X n
        by_cases hlt : n < K
        · have d1 : 0 ≤ x / 2 ^ n := by have := div_nonneg (x := x) (k := (n : Int)) h3; simpa [pw] using this
          have d2 : 0 ≤ X / 2 ^ n := by have := div_nonneg (x := X) (k := (n : Int)) hX0; simpa [pw] using this
          have n2 : (n : Int) < (K : Int) := by omega
          have HX := Lib.hid (show pc x (n + 1) = pc x n + x / 2 ^ n % 2 by simp only [pc, bt, pw, Int.toNat_natCast])
          have HY := Lib.hid (show pc X (n + 1) = pc X n + X / 2 ^ n % 2 by simp only [pc, bt, pw, Int.toNat_natCast])
          go_wp2
          go_round
          case rel => exact ⟨n + 1, by omega, by go_num, by rw [HX.out], by rw [HY.out]⟩
          case measure => simp [intOf]; omega
        · obtain rfl : n = K := by omega
          have r3 := H3.out
          go_wp2_with (first | (go_at_call 29; refine (over hb (wturnI_any _ _ _ _)).mono ?_; rintro e w' ⟨rfl, hb⟩) | (go_at_call 30; refine (over hb (wturnS_any _ _ _ _)).mono ?_; rintro e w' ⟨rfl, hb⟩) | (go_at_call 31; refine (validI_any _ _ _).mono ?_; rintro e w' ⟨rfl, rfl⟩) | (go_at_call 19; refine (over hb (alive_any _)).mono ?_; rintro e w' ⟨rfl, hb⟩))
          go_ret
          exact ⟨rfl, hb⟩
    · have hv : vK k x y = false := by simpa using hv
      have e0 : wturn k x y = -1 := by unfold wturn; rw [hv]; rfl
      go_wp2_with (first | (go_at_call 29; refine (over hb (wturnI_any _ _ _ _)).mono ?_; rintro e w' ⟨rfl, hb⟩) | (go_at_call 30; refine (over hb (wturnS_any _ _ _ _)).mono ?_; rintro e w' ⟨rfl, hb⟩) | (go_at_call 31; refine (validI_any _ _ _).mono ?_; rintro e w' ⟨rfl, rfl⟩) | (go_at_call 19; refine (over hb (alive_any _)).mono ?_; rintro e w' ⟨rfl, hb⟩))
      go_ret
      exact ⟨rfl, hb⟩

set_option maxRecDepth 100000 in
theorem lifted (os : Os) (started : os.Started) (H : Type) (enc : TypeId × Value → H) :
    ReturnsInHanded {} Try.checked os 5 .any (Rows.fnWordTurnSpec.pre6 enc Try.prog Try.f5 Rows.fnWordTurnRow.domain false) (Rows.fnWordTurnSpec.post enc Try.prog Try.f5 false true false false) := by
  refine returnsInHanded_of_change (C := Try.checked) own started (by kernel_rfl) Try.func5
    (ChangeSpec.witness6 (enc := enc) (C := Try.checked) false ⟨#[], #[.slice none 0 0], []⟩ 8 (by kernel_rfl) (by kernel_rfl) (by kernel_rfl) (by kernel_rfl)) ?_
  intro W base args ds gs before hval0 hW hcnd _
  have hval : ∀ (j : Nat) t v, Try.f5.params[j]? = some t → args[j]? = some v → Value.okWide Try.prog W .any base t v := hval0
  have hW' := hW
  obtain ⟨p, q, hA0, hV, rfl, hfz, hnd⟩ := hW
  have hA : DataW.TrodAll enc Try.prog W 0 (fun _ => true) true Try.f5.params.toList args.toList ds p := hA0
  rw [Try.params5] at hA hval
  obtain ⟨v0, vs0, d0, ds0, p0, q0, hargs, rfl, rfl, h0, r0⟩ := trodAll_cons hA
  obtain ⟨rfl, rfl, rfl⟩ := trodAll_nil r0
  obtain rfl : args = #[v0] := by cases args; simp_all
  obtain ⟨rfl, rfl⟩ := trodVars_none hV
  obtain ⟨a0, len0, cap0, rfl⟩ := okWide_slice Try.underlying22 (hval 0 22 v0 rfl rfl)
  have k0 := h0
  have lt0 : ∀ x ∈ p0, x.block < W.heap.size := by obtain ⟨m, hm⟩ := k0; exact DataW.trod_lt m _ _ _ hm
  obtain ⟨z0, w0⟩ : ∃ zs, IsRow .u8 W a0 len0 cap0 zs := by
    obtain ⟨fuel, hf⟩ := h0
    rcases open_ints Try.underlying22 Try.underlying5 (by kernel_rfl) hf with ⟨hcs, _⟩ | ⟨x, l, c, zs, hcs, _, hl, hm, hz, _, hcell, hwz⟩
    · simp [Value.cells] at hcs
      obtain ⟨rfl, rfl, rfl⟩ := hcs
      exact ⟨[], .inl ⟨rfl, rfl, rfl, rfl⟩⟩
    · simp [Value.cells] at hcs
      obtain ⟨rfl, rfl, rfl⟩ := hcs
      exact ⟨zs, .inr ⟨_, rfl, hl, hm, by simpa using hz, hcell, hwz⟩⟩
  clear hA0 hval0
  refine (walk a0 len0 cap0 z0 W w0).mono fun e W' ⟨he, bel⟩ => ?_
  subst he
  exact ⟨_, rfl, _, _, _, [], _, [], hW', trodAll_mk1 (shut_bool Try.underlying4 _), (trodAll_cons_mk (Below.trod laidOut (by kernel_rfl) (of_decide_eq_true (by kernel_rfl)) k0 bel lt0) trodAll_mk0), rfl, bel.frame _, fun h => by cases h⟩

theorem over : Rows.fnWordTurnRow.holds Try.pinned (OpenSpec.ofChange Rows.fnWordTurnSpec) :=
  OpenClaim.holds_of_wide 5 Try.f5 rfl rfl rfl rfl rfl rfl rfl ⟨rfl, rfl, rfl, rfl, rfl⟩ rfl rfl rfl rfl rfl (by kernel_rfl) Try.func5 (by kernel_rfl)
    (of_decide_eq_true (by kernel_rfl)) (by unfold Func.isWrapper; first | (rw [if_pos (by decide +kernel)]; kernel_rfl) | (rw [if_neg (by decide +kernel)]; exact ⟨rfl, rfl⟩))
    (fun os started H enc _ => lifted os started H enc)

theorem proved : Rows.FnWordTurnSaid := over
#print axioms proved
end Go.Proofs.Ytnlbomenmnbfpaa.fnWordTurn
