/-
  Proved: FnPrefixSteps: Few steps are enough. In full: There is one list, and one more as often as 1 is doubled until it is the width or more; the first kind is never changed. (P80) It returns true for all arguments, and they read afterwards as before. Conditions: none.
-/
import Derived.Test.YteoalkgpdgoaeaaAlive
import Derived.Test.YteoalkgpdgoaeaaListsB
import Derived.Test.YteoalkgpdgoaeaaSame
import Derived.Test.YteoalkgpdgoaeaaRowsS
import Derived.Test.YteoalkgpdgoaeaaRows
import Derived.WalkKit
import Derived.ProofKit
import Derived.OpenShut
import Derived.ShutString
import Derived.ChangeOld
import Derived.Below
import Derived.Carry
namespace Go.Proofs.Yteoalkgpdgoaeaa.fnPrefixSteps
open Go Go.ChangeShapes Go.WideShapes Go.ChangeAt Go.RowKit Bw
open Go.ChangeMaps (open_string shut_string)
set_option linter.unusedVariables false

theorem own : ownKnob Try.prog.godebug = none := by kernel_rfl
theorem laidOut : laidOutB Try.prog = true := by kernel_rfl
theorem row_first (K : Nat) (a b : Int) (i : Nat) (hK : 0 < K) : (rowAt K (kind a b) i).getD 0 0 = run (kind a b) 0 1 := by
  unfold rowAt
  have hp : 1 ≤ 2 ^ i := Nat.one_le_two_pow
  rw [reachL_get _ _ _ _ hK, Nat.min_eq_right (by omega), show 0 + 1 - 2 ^ i = 0 by omega]
theorem rows_get (K : Nat) (f : Nat → Int) (n i : Nat) (h : i < n) : (rowsL K f n).getD i [] = rowAt K f i := by simp [rowsL, List.getD, h]
theorem walk (a0 : Option Addr) (len0 cap0 : Nat) (z0 : List Int) (w : World) (w0 : IsRow .u8 w a0 len0 cap0 z0) :
    Calls Try.prog 4 #[.slice a0 len0 cap0] w fun e w' => e = .returned (.bool true) ∧ Below w.heap.size w w' := by
  by_cases hbig : (1048576 : Int) < (len0 : Int)
  · go_enter Try.func4, Try.ntmps4
    go_wp2_with fail
    go_ret
    exact ⟨rfl, Below.refl _ _⟩
  · go_enter Try.func4, Try.ntmps4
    go_wp2_with fail
    refine (drawPrefixSteps _ _ _ z0 _ w0).mono ?_
    rintro e wd ⟨k, x, y, rfl, hk, hx, hy, hb⟩
    by_cases hv : v2 k x y = true
    · obtain ⟨h1, h2, h3, h4, h5, h6, h12⟩ := v2_bd hv
      obtain ⟨K, rfl⟩ : ∃ K : Nat, k = (K : Int) := ⟨k.toNat, by omega⟩
      have EP := Lib.hid (show prefixF K x y = rowsL K (kind x y) (rounds K + 1) by unfold prefixF; rw [hv, Int.toNat_natCast]; rfl)
      have hK12 : K ≤ 12 := by omega
      have hK0 : 0 < K := by omega
      have hj4 : rounds K ≤ 4 := by unfold rounds; repeat' (first | omega | split)
      clear hv
      go_wp2_with fail
      refine (prefI_any _ _ _ _).mono ?_
      rintro e w1 ⟨v0, rfl, ho0, hb0⟩
      rw [EP.out, Int.toNat_natCast] at ho0
      obtain ⟨g, cap, rfl, _⟩ : ∃ g cap, v0 = .slice (some ⟨g, 0, none⟩) (rounds K + 1) cap ∧ True := by
        rcases ho0.form with ⟨n0, _⟩ | ⟨g, cap, rfl, _⟩
        · rw [rowsL_len] at n0; omega
        · exact ⟨g, cap, by rw [rowsL_len], trivial⟩
      go_wp2_with fail
      refine (prefS_any _ _ _ _).mono ?_
      rintro e w2 ⟨v1, rfl, ho1, hb1⟩
      rw [EP.out, Int.toNat_natCast] at ho1
      have R0 := ho0.below hb1
      go_wp2_with fail
      refine (sameSS_any _ _ _ _ _ _ _ R0 ho1 (by rw [rowsL_len]; omega) hK12 (fun i hi => by rw [rowsL_len] at hi; rw [rows_get _ _ _ _ hi, rowAt_len])).mono ?_
      rintro e w3 ⟨rfl, hb2⟩
      have R0 := R0.below hb2
      have hb := ((hb.trans (hb0.mono hb.size)).trans (hb1.mono (Nat.le_trans hb.size hb0.size))).trans (hb2.mono (Nat.le_trans (Nat.le_trans hb.size hb0.size) hb1.size))
      obtain ⟨J, hJ⟩ : ∃ J, rounds K = J := ⟨_, rfl⟩
      have jz : ((J : Int) + 1 == 0) = false := by simpa using (show ¬ (J : Int) + 1 = 0 by omega)
      have RC : ∃ B, RowCells w3 B g K (rowsL K (kind x y) (J + 1)) := by
        rcases R0.form with ⟨n0, _⟩ | ⟨g', cap', e, hc⟩
        · rw [rowsL_len] at n0; omega
        · injection e with e1 _ _
          injection e1 with e1
          injection e1 with e1
          rw [← e1, hJ] at hc
          exact ⟨_, hc⟩
      obtain ⟨BB, RC⟩ := RC
      have HRC := Lib.hid RC
      have HJ := Lib.hid hJ
      have hJ4 : J ≤ 4 := by omega
      rw [hJ]
      clear R0 ho0 ho1 RC hJ
      go_wp2
      go_loop [7, 8] (fun n r => ∃ j R : Nat, j ≤ J ∧ R = 2 ^ j ∧ n = .int .i64 ((j : Int) + 1) ∧ r = .int .i64 (R : Int)) (fun _ r => K - (intOf r).toNat)
      case atStart => exact ⟨0, 1, Nat.zero_le _, rfl, rfl, rfl⟩
      case round =>
        obtain ⟨j, R, hj, hR, rfl, rfl⟩ := hrel
        have HR := Lib.hid hR
        have hR1 : 1 ≤ R := hR ▸ Nat.one_le_two_pow
        by_cases hlt : R < K
        · have hj1 : j < J := by rw [← HJ.out]; exact rounds_lt hK12 (hR ▸ hlt)
          have s1 := IntWalk.i64_in ((j : Int) + 1 + 1) (by omega)
          have s2 := IntWalk.i64_in (2 * (R : Int)) (by omega)
          have k1 : (R : Int) < (K : Int) := by omega
          clear hR
          go_wp2
          go_round
          case rel => exact ⟨j + 1, 2 * R, by omega, by rw [Nat.pow_succ, ← HR.out]; omega, by go_num, by go_num⟩
          case measure => simp [intOf]; omega
        · have ej : j = J := by rw [← HJ.out]; exact rounds_eq hK12 (by rw [HJ.out]; exact hj) (by rw [← hR]; omega)
          subst ej
          have k1 : ¬ (R : Int) < (K : Int) := by omega
          clear hR
          go_wp2
          go_loopw [9] (fun i wr => ∃ n : Nat, n ≤ j + 1 ∧ i = .int .i64 n ∧ ∃ m, wr = w3.drewN m) (fun i _ => j + 1 - (intOf i).toNat)
          case atStart => exact ⟨0, Nat.zero_le _, rfl, 0, rfl⟩
          case round =>
            obtain ⟨n, hn, rfl, m, rfl⟩ := hrel
            by_cases hlt2 : n < j + 1
            · obtain ⟨b, c, _, hc1, ho1⟩ := HRC.out n (by rw [rowsL_len]; exact hlt2)
              obtain ⟨b', c', _, hc2, ho2⟩ := HRC.out 0 (by rw [rowsL_len]; omega)
              rw [rows_get _ _ _ _ hlt2] at ho1
              rw [rows_get _ _ _ _ (by omega)] at ho2
              have d1 := own_at ho1 (rowAt_len _ _ _) 0 hK0
              have d2 := own_at ho2 (rowAt_len _ _ _) 0 hK0
              rw [row_first _ _ _ _ hK0] at d1 d2
              have n0 : (0 : Int) ≤ (n : Int) := by omega
              have n1 : (n : Int) < (j : Int) + 1 := by omega
              have j0 : (0 : Int) < (j : Int) + 1 := by omega
              have kz : (0 : Int) < (K : Int) := by omega
              clear ho1 ho2
              go_wp2_with fail
              go_quiet (fail)
              go_wp2
              go_roundw
              case rel => exact ⟨n + 1, by omega, by go_num, _, rfl⟩
              case measure => simp [intOf]; omega
            · obtain rfl : n = j + 1 := by omega
              have n1 : ¬ (((j + 1 : Nat)) : Int) < (j : Int) + 1 := by omega
              go_wp2
              go_ret
              exact ⟨rfl, below_drewN hb _⟩
    · have hv : v2 k x y = false := by simpa using hv
      have EP := Lib.hid (show prefixF k x y = [] by unfold prefixF; rw [hv]; rfl)
      clear hv
      go_wp2_with fail
      refine (prefI_any _ _ _ _).mono ?_
      rintro e w1 ⟨v0, rfl, ho0, hb0⟩
      rw [EP.out] at ho0
      have q0 : OwnS w1 wd.heap.size v0 0 [] := by
        obtain ⟨vs, ho, hl, _, _⟩ := ho0
        obtain rfl : vs = [] := List.length_eq_zero_iff.mp hl
        exact ⟨[], ho, rows0 _ _ _⟩
      obtain ⟨a', c', rfl⟩ : ∃ a c, v0 = .slice a 0 c := by
        rcases ho0.form with ⟨_, h⟩ | ⟨g, cap, rfl, _⟩
        · exact h
        · exact ⟨_, _, rfl⟩
      clear ho0
      go_wp2_with fail
      refine (prefS_any _ _ _ _).mono ?_
      rintro e w2 ⟨v1, rfl, ho1, hb1⟩
      rw [EP.out] at ho1
      have q1 : OwnS w2 w1.heap.size v1 0 [] := by
        obtain ⟨vs, ho, hl, _, _⟩ := ho1
        obtain rfl : vs = [] := List.length_eq_zero_iff.mp hl
        exact ⟨[], ho, rows0 _ _ _⟩
      have R0 := q0.below hb1
      clear ho1
      go_wp2_with fail
      refine (sameSS_any _ _ _ _ _ _ _ R0 q1 (by simp) (by omega) (fun i hi => by simp at hi)).mono ?_
      rintro e w3 ⟨rfl, hb2⟩
      have hb := ((hb.trans (hb0.mono hb.size)).trans (hb1.mono (Nat.le_trans hb.size hb0.size))).trans (hb2.mono (Nat.le_trans (Nat.le_trans hb.size hb0.size) hb1.size))
      clear R0 q0 q1
      go_wp2_with (first | (go_at_call 18; refine (over hb (alive_any _)).mono ?_; rintro e w' ⟨rfl, hb⟩))
      go_ret
      exact ⟨rfl, hb⟩

set_option maxRecDepth 100000 in
theorem lifted (os : Os) (started : os.Started) (H : Type) (enc : TypeId × Value → H) :
    ReturnsInHanded {} Try.checked os 4 .any (Rows.fnPrefixStepsSpec.pre6 enc Try.prog Try.f4 Rows.fnPrefixStepsRow.domain false) (Rows.fnPrefixStepsSpec.post enc Try.prog Try.f4 false true false false) := by
  refine returnsInHanded_of_change (C := Try.checked) own started (by kernel_rfl) Try.func4
    (ChangeSpec.witness6 (enc := enc) (C := Try.checked) false ⟨#[], #[.slice none 0 0], []⟩ 8 (by kernel_rfl) (by kernel_rfl) (by kernel_rfl) (by kernel_rfl)) ?_
  intro W base args ds gs before hval0 hW hcnd _
  have hval : ∀ (j : Nat) t v, Try.f4.params[j]? = some t → args[j]? = some v → Value.okWide Try.prog W .any base t v := hval0
  have hW' := hW
  obtain ⟨p, q, hA0, hV, rfl, hfz, hnd⟩ := hW
  have hA : DataW.TrodAll enc Try.prog W 0 (fun _ => true) true Try.f4.params.toList args.toList ds p := hA0
  rw [Try.params4] at hA hval
  obtain ⟨v0, vs0, d0, ds0, p0, q0, hargs, rfl, rfl, h0, r0⟩ := trodAll_cons hA
  obtain ⟨rfl, rfl, rfl⟩ := trodAll_nil r0
  obtain rfl : args = #[v0] := by cases args; simp_all
  obtain ⟨rfl, rfl⟩ := trodVars_none hV
  obtain ⟨a0, len0, cap0, rfl⟩ := okWide_slice Try.underlying22 (hval 0 22 v0 rfl rfl)
  have k0 := h0
  have lt0 : ∀ x ∈ p0, x.block < W.heap.size := by obtain ⟨m, hm⟩ := k0; exact DataW.trod_lt m _ _ _ hm
  obtain ⟨z0, w0⟩ : ∃ zs, IsRow .u8 W a0 len0 cap0 zs := by
    obtain ⟨fuel, hf⟩ := h0
    rcases open_ints Try.underlying22 Try.underlying5 (by kernel_rfl) hf with ⟨hcs, _⟩ | ⟨x, l, c, zs, hcs, _, hl, hm, hz, _, hcell, hwz⟩
    · simp [Value.cells] at hcs
      obtain ⟨rfl, rfl, rfl⟩ := hcs
      exact ⟨[], .inl ⟨rfl, rfl, rfl, rfl⟩⟩
    · simp [Value.cells] at hcs
      obtain ⟨rfl, rfl, rfl⟩ := hcs
      exact ⟨zs, .inr ⟨_, rfl, hl, hm, by simpa using hz, hcell, hwz⟩⟩
  clear hA0 hval0
  refine (walk a0 len0 cap0 z0 W w0).mono fun e W' ⟨he, bel⟩ => ?_
  subst he
  exact ⟨_, rfl, _, _, _, [], _, [], hW', trodAll_mk1 (shut_bool Try.underlying4 _), (trodAll_cons_mk (Below.trod laidOut (by kernel_rfl) (of_decide_eq_true (by kernel_rfl)) k0 bel lt0) trodAll_mk0), rfl, bel.frame _, fun h => by cases h⟩

theorem over : Rows.fnPrefixStepsRow.holds Try.pinned (OpenSpec.ofChange Rows.fnPrefixStepsSpec) :=
  OpenClaim.holds_of_wide 4 Try.f4 rfl rfl rfl rfl rfl rfl rfl ⟨rfl, rfl, rfl, rfl, rfl⟩ rfl rfl rfl rfl rfl (by kernel_rfl) Try.func4 (by kernel_rfl)
    (of_decide_eq_true (by kernel_rfl)) (by unfold Func.isWrapper; first | (rw [if_pos (by decide +kernel)]; kernel_rfl) | (rw [if_neg (by decide +kernel)]; exact ⟨rfl, rfl⟩))
    (fun os started H enc _ => lifted os started H enc)

theorem proved : Rows.FnPrefixStepsSaid := over
#print axioms proved
end Go.Proofs.Yteoalkgpdgoaeaa.fnPrefixSteps
