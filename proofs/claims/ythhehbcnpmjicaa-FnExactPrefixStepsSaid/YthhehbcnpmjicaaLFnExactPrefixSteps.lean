/-
  Proved: FnExactPrefixSteps: The program's PrefixSteps returns what the reference's returns, for all arguments. It returns true for all arguments, and they read afterwards as before. Conditions: none.
-/
import Derived.Test.YthhehbcnpmjicaaSteps
import Derived.Test.YthhehbcnpmjicaaRowsS
import Derived.Test.YthhehbcnpmjicaaRows
import Derived.WalkKit
import Derived.ProofKit
import Derived.OpenShut
import Derived.ShutString
import Derived.ChangeOld
import Derived.Below
import Derived.Carry
namespace Go.Proofs.Ythhehbcnpmjicaa.fnExactPrefixSteps
open Go Go.ChangeShapes Go.WideShapes Go.ChangeAt Go.RowKit Bw
open Go.ChangeMaps (open_string shut_string)
set_option linter.unusedVariables false

theorem own : ownKnob Try.prog.godebug = none := by kernel_rfl
def pK (k a b : Int) : Nat := if v2 k a b then k.toNat else 0
theorem sret_pK {k a b : Int} {w : World} {e : Ending} {w' : World} (h : SRet k.toNat (prefixF k a b) w e w') : SRet (pK k a b) (prefixF k a b) w e w' := by
  by_cases hv : v2 k a b = true
  · rw [show pK k a b = k.toNat by unfold pK; rw [if_pos hv]]; exact h
  · have hv : v2 k a b = false := by simpa using hv
    have e0 : prefixF k a b = [] := by unfold prefixF; rw [hv]; rfl
    obtain ⟨v, he, ho, hb⟩ := h
    rw [e0] at ho ⊢
    obtain ⟨vs, ho, hl, _, _⟩ := ho
    have : vs = [] := List.length_eq_zero_iff.mp hl
    subst this
    exact ⟨v, he, ⟨[], ho, rows0 _ _ _⟩, hb⟩
theorem pfacts (k a b : Int) : pK k a b ≤ 12 ∧ (prefixF k a b).length ≤ 8 ∧ ∀ i, i < (prefixF k a b).length → ((prefixF k a b).getD i []).length = pK k a b := by
  by_cases hv : v2 k a b = true
  · have hb := v2_bd hv
    have e1 : pK k a b = k.toNat := by unfold pK; rw [if_pos hv]
    have e2 : prefixF k a b = rowsL k.toNat (kind a b) (rounds k.toNat + 1) := by unfold prefixF; rw [if_pos hv]
    have h4 : rounds k.toNat ≤ 4 := by unfold rounds; repeat' (first | omega | split)
    rw [e1, e2]
    refine ⟨by omega, by rw [rowsL_len]; omega, fun i hi => ?_⟩
    rw [rowsL_len] at hi
    have : (rowsL k.toNat (kind a b) (rounds k.toNat + 1)).getD i [] = rowAt k.toNat (kind a b) i := by simp [rowsL, List.getD, hi]
    rw [this, rowAt_len]
  · have hv : v2 k a b = false := by simpa using hv
    have e0 : prefixF k a b = [] := by unfold prefixF; rw [hv]; rfl
    have e1 : pK k a b = 0 := by unfold pK; rw [hv]; rfl
    rw [e0, e1]
    exact ⟨by omega, by simp, fun i hi => by simp at hi⟩
theorem walk (a0 : Int) (a1 : Int) (a2 : Int) (w : World) (w0 : (Lit.int .i64 a0).wf = true) (w1 : (Lit.int .i64 a1).wf = true) (w2 : (Lit.int .i64 a2).wf = true) :
    Calls Try.prog 13 #[.int .i64 a0, .int .i64 a1, .int .i64 a2] w fun e w' => e = .returned (.bool true) ∧ Below w.heap.size w w' := by
  obtain ⟨hK, hlen, hrows⟩ := pfacts a0 a1 a2
  have HR := Lib.hid hrows
  have hq : (0 : Int) ≤ 1 + ((prefixF a0 a1 a2).length : Int) * (pK a0 a1 a2 : Int) := by
    have : 0 ≤ ((prefixF a0 a1 a2).length : Int) * (pK a0 a1 a2 : Int) := Int.mul_nonneg (by omega) (by omega)
    omega
  clear hrows
  go_enter Try.func13, Try.ntmps13
  go_wp2_with fail
  refine (prefS_any _ _ _ _).mono ?_
  intro e w1 h
  obtain ⟨v0, rfl, ho0, hb0⟩ := sret_pK h
  clear h
  go_wp2_with fail
  refine (prefI_any _ _ _ _).mono ?_
  intro e w2 h
  obtain ⟨v1, rfl, ho1, hb1⟩ := sret_pK h
  clear h
  have R0 := ho0.below hb1
  go_wp2_with fail
  refine (eqSS_any _ _ _ _ _ _ _ ho1 R0 (by omega) (by omega) HR.out).mono ?_
  rintro e w3 ⟨rfl, hb2⟩
  have ho1 := ho1.below hb2
  have s1 := hb1.size
  have s2 := hb2.size
  go_wp2_with fail
  refine (marksS_any _ _ _ _ _ _ ho1 (by omega) (by omega) (by omega) HR.out (by omega) (by omega)).mono ?_
  rintro e w4 ⟨rfl, ho2, hg⟩
  have hb3 : Below w1.heap.size w1 w4 := (hb1.trans (hb2.mono s1)).trans hg
  have R0 := ho0.below hb3
  go_wp2_with fail
  refine (heldS_any _ _ _ _ _ _ ho2 (by omega) (by omega) (by omega) (by omega)).mono ?_
  rintro e w5 ⟨rfl, rfl⟩
  go_wp2_with fail
  refine (prefI_any _ _ _ _).mono ?_
  intro e w6 h
  obtain ⟨v2, rfl, ho3, hb4⟩ := sret_pK h
  clear h
  have R0 := R0.below hb4
  have ho2 := ho2.below hb4
  go_wp2_with fail
  refine (eqSS_any _ _ _ _ _ _ _ ho3 R0 (by omega) (by omega) HR.out).mono ?_
  rintro e w7 ⟨rfl, hb5⟩
  have ho2 := ho2.below hb5
  go_wp2_with fail
  refine (heldS_any _ _ _ _ _ _ ho2 (by omega) (by omega) (by omega) (by omega)).mono ?_
  rintro e w8 ⟨rfl, rfl⟩
  go_wp2
  go_ret
  have t1 := hb0.size
  have t2 := hb3.size
  have t3 := hb4.size
  exact ⟨rfl, ((hb0.trans (hb3.mono t1)).trans (hb4.mono (by omega))).trans (hb5.mono (by omega))⟩

set_option maxRecDepth 100000 in
theorem lifted (os : Os) (started : os.Started) (H : Type) (enc : TypeId × Value → H) :
    ReturnsInHanded {} Try.checked os 13 .any (Rows.fnExactPrefixStepsSpec.pre6 enc Try.prog Try.f13 Rows.fnExactPrefixStepsRow.domain false) (Rows.fnExactPrefixStepsSpec.post enc Try.prog Try.f13 false true false false) := by
  refine returnsInHanded_of_change (C := Try.checked) own started (by kernel_rfl) Try.func13
    (ChangeSpec.witness6 (enc := enc) (C := Try.checked) false ⟨#[], #[.int .i64 0, .int .i64 0, .int .i64 0], []⟩ 8 (by kernel_rfl) (by kernel_rfl) (by kernel_rfl) (by kernel_rfl)) ?_
  intro W base args ds gs before hval0 hW hcnd _
  have hval : ∀ (j : Nat) t v, Try.f13.params[j]? = some t → args[j]? = some v → Value.okWide Try.prog W .any base t v := hval0
  have hW' := hW
  obtain ⟨p, q, hA0, hV, rfl, hfz, hnd⟩ := hW
  have hA : DataW.TrodAll enc Try.prog W 0 (fun _ => true) true Try.f13.params.toList args.toList ds p := hA0
  rw [Try.params13] at hA hval
  obtain ⟨v0, vs0, d0, ds0, p0, q0, hargs, rfl, rfl, h0, r0⟩ := trodAll_cons hA
  obtain ⟨v1, vs1, d1, ds1, p1, q1, rfl, rfl, rfl, h1, r1⟩ := trodAll_cons r0
  obtain ⟨v2, vs2, d2, ds2, p2, q2, rfl, rfl, rfl, h2, r2⟩ := trodAll_cons r1
  obtain ⟨rfl, rfl, rfl⟩ := trodAll_nil r2
  obtain rfl : args = #[v0, v1, v2] := by cases args; simp_all
  obtain ⟨rfl, rfl⟩ := trodVars_none hV
  obtain ⟨a0, rfl, rfl, rfl, w0⟩ := open_int Try.underlying3 (hval 0 3 v0 rfl rfl) h0
  obtain ⟨a1, rfl, rfl, rfl, w1⟩ := open_int Try.underlying3 (hval 1 3 v1 rfl rfl) h1
  obtain ⟨a2, rfl, rfl, rfl, w2⟩ := open_int Try.underlying3 (hval 2 3 v2 rfl rfl) h2
  clear hA0 hval0
  refine (walk a0 a1 a2 W w0 w1 w2).mono fun e W' ⟨he, bel⟩ => ?_
  subst he
  simp only [List.append_nil] at hW'
  exact ⟨_, rfl, _, _, _, [], [], [], hW', trodAll_mk1 (shut_bool Try.underlying4 _), (trodAll_cons_mk (shut_int Try.underlying3 w0) (trodAll_cons_mk (shut_int Try.underlying3 w1) (trodAll_cons_mk (shut_int Try.underlying3 w2) trodAll_mk0))), rfl, bel.frame _, fun h => by cases h⟩

theorem over : Rows.fnExactPrefixStepsRow.holds Try.pinned (OpenSpec.ofChange Rows.fnExactPrefixStepsSpec) :=
  OpenClaim.holds_of_wide 13 Try.f13 rfl rfl rfl rfl rfl rfl rfl ⟨rfl, rfl, rfl, rfl, rfl⟩ rfl rfl rfl rfl rfl (by kernel_rfl) Try.func13 (by kernel_rfl)
    (of_decide_eq_true (by kernel_rfl)) (by unfold Func.isWrapper; first | (rw [if_pos (by decide +kernel)]; kernel_rfl) | (rw [if_neg (by decide +kernel)]; exact ⟨rfl, rfl⟩))
    (fun os started H enc _ => lifted os started H enc)

theorem proved : Rows.FnExactPrefixStepsSaid := over
#print axioms proved
end Go.Proofs.Ythhehbcnpmjicaa.fnExactPrefixSteps
