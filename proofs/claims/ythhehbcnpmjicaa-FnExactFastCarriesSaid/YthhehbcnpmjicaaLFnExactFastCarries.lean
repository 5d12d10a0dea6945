/-
  Proved: FnExactFastCarries: The program's FastCarries returns what the reference's returns, for all arguments. It returns true for all arguments, and they read afterwards as before. Conditions: none.
-/
import Derived.Test.YthhehbcnpmjicaaFast
import Derived.Test.YthhehbcnpmjicaaRows
import Derived.WalkKit
import Derived.ProofKit
import Derived.OpenShut
import Derived.ShutString
import Derived.ChangeOld
import Derived.Below
import Derived.Carry
namespace Go.Proofs.Ythhehbcnpmjicaa.fnExactFastCarries
open Go Go.ChangeShapes Go.WideShapes Go.ChangeAt Go.RowKit Bw
open Go.ChangeMaps (open_string shut_string)
set_option linter.unusedVariables false

theorem own : ownKnob Try.prog.godebug = none := by kernel_rfl

theorem walk (a0 : Int) (a1 : Int) (a2 : Int) (a3 : Int) (w : World) (w0 : (Lit.int .i64 a0).wf = true) (w1 : (Lit.int .i64 a1).wf = true) (w2 : (Lit.int .i64 a2).wf = true) (w3 : (Lit.int .i64 a3).wf = true) :
    Calls Try.prog 14 #[.int .i64 a0, .int .i64 a1, .int .i64 a2, .int .i64 a3] w fun e w' => e = .returned (.bool true) ∧ Below w.heap.size w w' := by
  have l20 := carriesF_len a0 a1 a2 a3
  go_enter Try.func14, Try.ntmps14
  go_wp2_with fail
  refine (fastS_any _ _ _ _ _).mono ?_
  rintro e w1 ⟨v0, rfl, ho0, hb0⟩
  go_wp2_with fail
  refine (fastI_any _ _ _ _ _).mono ?_
  rintro e w2 ⟨v1, rfl, ho1, hb1⟩
  have R0 : Rd w2 v0 _ := ho0.rd.below hb1
  go_wp2_with fail
  refine (eqL_any _ _ _ _ ho1.rd R0 (by omega)).mono ?_
  rintro e w3 ⟨rfl, hb2⟩
  have ho1 := ho1.kept_below hb2
  have R0 := R0.below hb2
  go_wp2_with fail
  refine (mark_any _ _ _ _ _ ho1 (by omega) (by omega) (by omega)).mono ?_
  rintro e w4 ⟨rfl, ho2, hg⟩
  have R0 : Rd w4 v0 _ := R0.grown hg (fun j hj e => by have h1 := ho0.lt j hj; have h2 := ho1.lt j e; omega)
  have hb3 : Below w1.heap.size w1 w4 := (hb1.trans (hb2.mono hb1.size)).grown hg (by have := hb1.size; have := hb2.size; omega) (fun j hj => (ho1.lt j hj).1)
  go_wp2_with fail
  refine (held_any _ _ _ _ ho2.rd (by omega) (by omega) (by omega)).mono ?_
  rintro e w5 ⟨rfl, rfl⟩
  go_wp2_with fail
  refine (fastI_any _ _ _ _ _).mono ?_
  rintro e w6 ⟨v2, rfl, ho3, hb4⟩
  have R0 := R0.below hb4
  have ho2 := ho2.kept_below hb4
  go_wp2_with fail
  refine (eqL_any _ _ _ _ ho3.rd R0 (by omega)).mono ?_
  rintro e w7 ⟨rfl, hb5⟩
  have ho2 := ho2.kept_below hb5
  go_wp2_with fail
  refine (held_any _ _ _ _ ho2.rd (by omega) (by omega) (by omega)).mono ?_
  rintro e w8 ⟨rfl, rfl⟩
  go_wp2
  go_ret
  have s1 := hb0.size
  have s2 := hb3.size
  have s3 := hb4.size
  exact ⟨rfl, ((hb0.trans (hb3.mono s1)).trans (hb4.mono (by omega))).trans (hb5.mono (by omega))⟩

set_option maxRecDepth 100000 in
theorem lifted (os : Os) (started : os.Started) (H : Type) (enc : TypeId × Value → H) :
    ReturnsInHanded {} Try.checked os 14 .any (Rows.fnExactFastCarriesSpec.pre6 enc Try.prog Try.f14 Rows.fnExactFastCarriesRow.domain false) (Rows.fnExactFastCarriesSpec.post enc Try.prog Try.f14 false true false false) := by
  refine returnsInHanded_of_change (C := Try.checked) own started (by kernel_rfl) Try.func14
    (ChangeSpec.witness6 (enc := enc) (C := Try.checked) false ⟨#[], #[.int .i64 0, .int .i64 0, .int .i64 0, .int .i64 0], []⟩ 8 (by kernel_rfl) (by kernel_rfl) (by kernel_rfl) (by kernel_rfl)) ?_
  intro W base args ds gs before hval0 hW hcnd _
  have hval : ∀ (j : Nat) t v, Try.f14.params[j]? = some t → args[j]? = some v → Value.okWide Try.prog W .any base t v := hval0
  have hW' := hW
  obtain ⟨p, q, hA0, hV, rfl, hfz, hnd⟩ := hW
  have hA : DataW.TrodAll enc Try.prog W 0 (fun _ => true) true Try.f14.params.toList args.toList ds p := hA0
  rw [Try.params14] at hA hval
  obtain ⟨v0, vs0, d0, ds0, p0, q0, hargs, rfl, rfl, h0, r0⟩ := trodAll_cons hA
  obtain ⟨v1, vs1, d1, ds1, p1, q1, rfl, rfl, rfl, h1, r1⟩ := trodAll_cons r0
  obtain ⟨v2, vs2, d2, ds2, p2, q2, rfl, rfl, rfl, h2, r2⟩ := trodAll_cons r1
  obtain ⟨v3, vs3, d3, ds3, p3, q3, rfl, rfl, rfl, h3, r3⟩ := trodAll_cons r2
  obtain ⟨rfl, rfl, rfl⟩ := trodAll_nil r3
  obtain rfl : args = #[v0, v1, v2, v3] := by cases args; simp_all
  obtain ⟨rfl, rfl⟩ := trodVars_none hV
  obtain ⟨a0, rfl, rfl, rfl, w0⟩ := open_int Try.underlying3 (hval 0 3 v0 rfl rfl) h0
  obtain ⟨a1, rfl, rfl, rfl, w1⟩ := open_int Try.underlying3 (hval 1 3 v1 rfl rfl) h1
  obtain ⟨a2, rfl, rfl, rfl, w2⟩ := open_int Try.underlying3 (hval 2 3 v2 rfl rfl) h2
  obtain ⟨a3, rfl, rfl, rfl, w3⟩ := open_int Try.underlying3 (hval 3 3 v3 rfl rfl) h3
  clear hA0 hval0
  refine (walk a0 a1 a2 a3 W w0 w1 w2 w3).mono fun e W' ⟨he, bel⟩ => ?_
  subst he
  simp only [List.append_nil] at hW'
  exact ⟨_, rfl, _, _, _, [], [], [], hW', trodAll_mk1 (shut_bool Try.underlying4 _), (trodAll_cons_mk (shut_int Try.underlying3 w0) (trodAll_cons_mk (shut_int Try.underlying3 w1) (trodAll_cons_mk (shut_int Try.underlying3 w2) (trodAll_cons_mk (shut_int Try.underlying3 w3) trodAll_mk0)))), rfl, bel.frame _, fun h => by cases h⟩

theorem over : Rows.fnExactFastCarriesRow.holds Try.pinned (OpenSpec.ofChange Rows.fnExactFastCarriesSpec) :=
  OpenClaim.holds_of_wide 14 Try.f14 rfl rfl rfl rfl rfl rfl rfl ⟨rfl, rfl, rfl, rfl, rfl⟩ rfl rfl rfl rfl rfl (by kernel_rfl) Try.func14 (by kernel_rfl)
    (of_decide_eq_true (by kernel_rfl)) (by unfold Func.isWrapper; first | (rw [if_pos (by decide +kernel)]; kernel_rfl) | (rw [if_neg (by decide +kernel)]; exact ⟨rfl, rfl⟩))
    (fun os started H enc _ => lifted os started H enc)

theorem proved : Rows.FnExactFastCarriesSaid := over
#print axioms proved
end Go.Proofs.Ythhehbcnpmjicaa.fnExactFastCarries
