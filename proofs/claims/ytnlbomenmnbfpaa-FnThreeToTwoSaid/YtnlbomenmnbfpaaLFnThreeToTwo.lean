/-
  Proved: FnThreeToTwo: Three words are two words. MAIN. In full: Both words together are all three (WordAdd); for the words in another order they are the same. (P4) It returns true for all arguments, and they read afterwards as before. Conditions: none.
-/
import Derived.Test.YtnlbomenmnbfpaaAlive
import Derived.Test.YtnlbomenmnbfpaaAdd
import Derived.Test.YtnlbomenmnbfpaaRows
import Derived.WalkKit
import Derived.ProofKit
import Derived.OpenShut
import Derived.ShutString
import Derived.ChangeOld
import Derived.Below
import Derived.Carry
namespace Go.Proofs.Ytnlbomenmnbfpaa.fnThreeToTwo
open Go Go.ChangeShapes Go.WideShapes Go.ChangeAt Go.RowKit Bw
open Go.ChangeMaps (open_string shut_string)
set_option linter.unusedVariables false

theorem own : ownKnob Try.prog.godebug = none := by kernel_rfl
theorem laidOut : laidOutB Try.prog = true := by kernel_rfl

theorem walk (a0 : Option Addr) (len0 cap0 : Nat) (z0 : List Int) (w : World) (w0 : IsRow .u8 w a0 len0 cap0 z0) :
    Calls Try.prog 9 #[.slice a0 len0 cap0] w fun e w' => e = .returned (.bool true) ∧ Below w.heap.size w w' := by
  by_cases hbig : (1048576 : Int) < (len0 : Int)
  · go_enter Try.func9, Try.ntmps9
    go_wp2_with fail
    go_ret
    exact ⟨rfl, Below.refl _ _⟩
  · go_enter Try.func9, Try.ntmps9
    go_wp2_with fail
    refine (drawThreeToTwo _ _ _ z0 _ w0).mono ?_
    rintro e wd ⟨k, x, y, z, rfl, hk, hx, hy, hz, hb⟩
    by_cases hv : v3 k x y z = true
    · obtain ⟨ha, hbb, hc⟩ := v3_iff.mp hv
      have hv2 : v3 k z x y = true := v3_iff.mpr ⟨hc, ha, hbb⟩
      have a1 : three1 k x y z = t3x x y z := by unfold three1; rw [hv]; rfl
      have a2 : three2 k x y z = t3y k x y z := by unfold three2; rw [hv]; rfl
      have b1 : three1 k z x y = t3x x y z := by unfold three1; rw [hv2]; exact t3x_turn x y z
      have b2 : three2 k z x y = t3y k x y z := by unfold three2; rw [hv2]; unfold t3y; rw [maj_turn]; rfl
      have r1 := three_add ha hbb hc
      obtain ⟨P, hP⟩ : ∃ P, t3x x y z = P := ⟨_, rfl⟩
      rw [hP] at a1 b1 r1
      obtain ⟨Q, hQ⟩ : ∃ Q, t3y k x y z = Q := ⟨_, rfl⟩
      rw [hQ] at a2 b2 r1
      obtain ⟨T, hT⟩ : ∃ T, wadd k x y = T := ⟨_, rfl⟩
      rw [hT] at r1
      obtain ⟨S, hS⟩ : ∃ S, wadd k T z = S := ⟨_, rfl⟩
      rw [hS] at r1
      clear ha hbb hc hP hQ
      go_wp2_with (first | (go_at_call 43; refine (over hb (threeI_any _ _ _ _ _)).mono ?_; rintro e w' ⟨rfl, hb⟩) | (go_at_call 44; refine (threeS_any _ _ _ _ _).mono ?_; rintro e w' ⟨rfl, rfl⟩) | (go_at_call 25; refine (over hb (waddI_any _ _ _ _)).mono ?_; rintro e w' ⟨rfl, hb⟩) | (go_at_call 19; refine (over hb (alive_any _)).mono ?_; rintro e w' ⟨rfl, hb⟩))
      go_ret
      exact ⟨rfl, hb⟩
    · have hv : v3 k x y z = false := by simpa using hv
      have e1 : three1 k x y z = -1 := by unfold three1; rw [hv]; rfl
      have e2 : three2 k x y z = -1 := by unfold three2; rw [hv]; rfl
      go_wp2_with (first | (go_at_call 43; refine (over hb (threeI_any _ _ _ _ _)).mono ?_; rintro e w' ⟨rfl, hb⟩) | (go_at_call 44; refine (threeS_any _ _ _ _ _).mono ?_; rintro e w' ⟨rfl, rfl⟩) | (go_at_call 25; refine (over hb (waddI_any _ _ _ _)).mono ?_; rintro e w' ⟨rfl, hb⟩) | (go_at_call 19; refine (over hb (alive_any _)).mono ?_; rintro e w' ⟨rfl, hb⟩))
      go_ret
      exact ⟨rfl, hb⟩

set_option maxRecDepth 100000 in
theorem lifted (os : Os) (started : os.Started) (H : Type) (enc : TypeId × Value → H) :
    ReturnsInHanded {} Try.checked os 9 .any (Rows.fnThreeToTwoSpec.pre6 enc Try.prog Try.f9 Rows.fnThreeToTwoRow.domain false) (Rows.fnThreeToTwoSpec.post enc Try.prog Try.f9 false true false false) := by
  refine returnsInHanded_of_change (C := Try.checked) own started (by kernel_rfl) Try.func9
    (ChangeSpec.witness6 (enc := enc) (C := Try.checked) false ⟨#[], #[.slice none 0 0], []⟩ 8 (by kernel_rfl) (by kernel_rfl) (by kernel_rfl) (by kernel_rfl)) ?_
  intro W base args ds gs before hval0 hW hcnd _
  have hval : ∀ (j : Nat) t v, Try.f9.params[j]? = some t → args[j]? = some v → Value.okWide Try.prog W .any base t v := hval0
  have hW' := hW
  obtain ⟨p, q, hA0, hV, rfl, hfz, hnd⟩ := hW
  have hA : DataW.TrodAll enc Try.prog W 0 (fun _ => true) true Try.f9.params.toList args.toList ds p := hA0
  rw [Try.params9] at hA hval
  obtain ⟨v0, vs0, d0, ds0, p0, q0, hargs, rfl, rfl, h0, r0⟩ := trodAll_cons hA
  obtain ⟨rfl, rfl, rfl⟩ := trodAll_nil r0
  obtain rfl : args = #[v0] := by cases args; simp_all
  obtain ⟨rfl, rfl⟩ := trodVars_none hV
  obtain ⟨a0, len0, cap0, rfl⟩ := okWide_slice Try.underlying22 (hval 0 22 v0 rfl rfl)
  have k0 := h0
  have lt0 : ∀ x ∈ p0, x.block < W.heap.size := by obtain ⟨m, hm⟩ := k0; exact DataW.trod_lt m _ _ _ hm
  obtain ⟨z0, w0⟩ : ∃ zs, IsRow .u8 W a0 len0 cap0 zs := by
    obtain ⟨fuel, hf⟩ := h0
    rcases open_ints Try.underlying22 Try.underlying5 (by kernel_rfl) hf with ⟨hcs, _⟩ | ⟨x, l, c, zs, hcs, _, hl, hm, hz, _, hcell, hwz⟩
    · simp [Value.cells] at hcs
      obtain ⟨rfl, rfl, rfl⟩ := hcs
      exact ⟨[], .inl ⟨rfl, rfl, rfl, rfl⟩⟩
    · simp [Value.cells] at hcs
      obtain ⟨rfl, rfl, rfl⟩ := hcs
      exact ⟨zs, .inr ⟨_, rfl, hl, hm, by simpa using hz, hcell, hwz⟩⟩
  clear hA0 hval0
  refine (walk a0 len0 cap0 z0 W w0).mono fun e W' ⟨he, bel⟩ => ?_
  subst he
  exact ⟨_, rfl, _, _, _, [], _, [], hW', trodAll_mk1 (shut_bool Try.underlying4 _), (trodAll_cons_mk (Below.trod laidOut (by kernel_rfl) (of_decide_eq_true (by kernel_rfl)) k0 bel lt0) trodAll_mk0), rfl, bel.frame _, fun h => by cases h⟩

theorem over : Rows.fnThreeToTwoRow.holds Try.pinned (OpenSpec.ofChange Rows.fnThreeToTwoSpec) :=
  OpenClaim.holds_of_wide 9 Try.f9 rfl rfl rfl rfl rfl rfl rfl ⟨rfl, rfl, rfl, rfl, rfl⟩ rfl rfl rfl rfl rfl (by kernel_rfl) Try.func9 (by kernel_rfl)
    (of_decide_eq_true (by kernel_rfl)) (by unfold Func.isWrapper; first | (rw [if_pos (by decide +kernel)]; kernel_rfl) | (rw [if_neg (by decide +kernel)]; exact ⟨rfl, rfl⟩))
    (fun os started H enc _ => lifted os started H enc)

theorem proved : Rows.FnThreeToTwoSaid := over
#print axioms proved
end Go.Proofs.Ytnlbomenmnbfpaa.fnThreeToTwo
