/-
  Proved: FnExactManySum: The program's ManySum returns what the reference's returns, for all arguments. It returns true for all arguments, and they read afterwards as before. Conditions: none.
-/
import Derived.Test.YthhehbcnpmjicaaMany
import Derived.Test.YthhehbcnpmjicaaRow
import Derived.Test.YthhehbcnpmjicaaRows
import Derived.WalkKit
import Derived.ProofKit
import Derived.OpenShut
import Derived.ShutString
import Derived.ChangeOld
import Derived.Below
import Derived.Carry
namespace Go.Proofs.Ythhehbcnpmjicaa.fnExactManySum
open Go Go.ChangeShapes Go.WideShapes Go.ChangeAt Go.RowKit Bw
open Go.ChangeMaps (open_string shut_string)
set_option linter.unusedVariables false

theorem own : ownKnob Try.prog.godebug = none := by kernel_rfl
theorem laidOut : laidOutB Try.prog = true := by kernel_rfl

theorem walk (a0 : Int) (a1 : Option Addr) (len1 cap1 : Nat) (z1 : List Int) (w : World) (w0 : (Lit.int .i64 a0).wf = true) (w1 : IsRow .i64 w a1 len1 cap1 z1) :
    Calls Try.prog 12 #[.int .i64 a0, .slice a1 len1 cap1] w fun e w' => e = .returned (.bool true) ∧ Below w.heap.size w w' := by
  by_cases hbig : (1048576 : Int) < (len1 : Int)
  · go_enter Try.func12, Try.ntmps12
    go_wp2_with fail
    go_ret
    exact ⟨rfl, Below.refl _ _⟩
  · have hT : (z1.take len1).length ≤ 1048576 := by simp; omega
    have HI := Lib.hid w1
    go_enter Try.func12, Try.ntmps12
    go_wp2_with fail
    refine (toInt_any _ _ _ _ _ HI.out (by omega)).mono ?_
    rintro e x1 ⟨v0, rfl, ho0, hb0⟩
    go_wp2_with fail
    refine (manyS_any _ _ _ _ ho0.rd hT).mono ?_
    rintro e x2 ⟨rfl, hb1⟩
    have hb := hb0.trans (hb1.mono hb0.size)
    go_wp2_with fail
    refine (toInt_any _ _ _ _ _ (HI.out.below hb) (by omega)).mono ?_
    rintro e x3 ⟨v1, rfl, ho1, hb2⟩
    have hb := hb.trans (hb2.mono hb.size)
    go_wp2_with fail
    refine (manyI_any _ _ _ _ ho1.rd hT).mono ?_
    rintro e x4 ⟨rfl, hb3⟩
    have hb := hb.trans (hb3.mono hb.size)
    have R1 := ho1.rd.below hb3
    go_wp2_with fail
    refine (toInt_any _ _ _ _ _ (HI.out.below hb) (by omega)).mono ?_
    rintro e x5 ⟨v2, rfl, ho2, hb4⟩
    have hb := hb.trans (hb4.mono hb.size)
    have R1 := R1.below hb4
    go_wp2_with fail
    refine (eqL_any _ _ _ _ R1 ho2.rd hT).mono ?_
    rintro e x6 ⟨rfl, hb5⟩
    have hb := hb.trans (hb5.mono hb.size)
    go_wp2
    go_ret
    exact ⟨rfl, hb⟩

set_option maxRecDepth 100000 in
theorem lifted (os : Os) (started : os.Started) (H : Type) (enc : TypeId × Value → H) :
    ReturnsInHanded {} Try.checked os 12 .any (Rows.fnExactManySumSpec.pre6 enc Try.prog Try.f12 Rows.fnExactManySumRow.domain false) (Rows.fnExactManySumSpec.post enc Try.prog Try.f12 false true false false) := by
  refine returnsInHanded_of_change (C := Try.checked) own started (by kernel_rfl) Try.func12
    (ChangeSpec.witness6 (enc := enc) (C := Try.checked) false ⟨#[], #[.int .i64 0, .slice none 0 0], []⟩ 8 (by kernel_rfl) (by kernel_rfl) (by kernel_rfl) (by kernel_rfl)) ?_
  intro W base args ds gs before hval0 hW hcnd _
  have hval : ∀ (j : Nat) t v, Try.f12.params[j]? = some t → args[j]? = some v → Value.okWide Try.prog W .any base t v := hval0
  have hW' := hW
  obtain ⟨p, q, hA0, hV, rfl, hfz, hnd⟩ := hW
  have hA : DataW.TrodAll enc Try.prog W 0 (fun _ => true) true Try.f12.params.toList args.toList ds p := hA0
  rw [Try.params12] at hA hval
  obtain ⟨v0, vs0, d0, ds0, p0, q0, hargs, rfl, rfl, h0, r0⟩ := trodAll_cons hA
  obtain ⟨v1, vs1, d1, ds1, p1, q1, rfl, rfl, rfl, h1, r1⟩ := trodAll_cons r0
  obtain ⟨rfl, rfl, rfl⟩ := trodAll_nil r1
  obtain rfl : args = #[v0, v1] := by cases args; simp_all
  obtain ⟨rfl, rfl⟩ := trodVars_none hV
  obtain ⟨a0, rfl, rfl, rfl, w0⟩ := open_int Try.underlying3 (hval 0 3 v0 rfl rfl) h0
  obtain ⟨a1, len1, cap1, rfl⟩ := okWide_slice Try.underlying28 (hval 1 28 v1 rfl rfl)
  have k1 := h1
  have lt1 : ∀ x ∈ p1, x.block < W.heap.size := by obtain ⟨m, hm⟩ := k1; exact DataW.trod_lt m _ _ _ hm
  obtain ⟨z1, w1⟩ : ∃ zs, IsRow .i64 W a1 len1 cap1 zs := by
    obtain ⟨fuel, hf⟩ := h1
    rcases open_ints Try.underlying28 Try.underlying3 (by kernel_rfl) hf with ⟨hcs, _⟩ | ⟨x, l, c, zs, hcs, _, hl, hm, hz, _, hcell, hwz⟩
    · simp [Value.cells] at hcs
      obtain ⟨rfl, rfl, rfl⟩ := hcs
      exact ⟨[], .inl ⟨rfl, rfl, rfl, rfl⟩⟩
    · simp [Value.cells] at hcs
      obtain ⟨rfl, rfl, rfl⟩ := hcs
      exact ⟨zs, .inr ⟨_, rfl, hl, hm, by simpa using hz, hcell, hwz⟩⟩
  clear hA0 hval0
  refine (walk a0 a1 len1 cap1 z1 W w0 w1).mono fun e W' ⟨he, bel⟩ => ?_
  subst he
  exact ⟨_, rfl, _, _, _, [], _, [], hW', trodAll_mk1 (shut_bool Try.underlying4 _), (trodAll_cons_mk (shut_int Try.underlying3 w0) (trodAll_cons_mk (Below.trod laidOut (by kernel_rfl) (of_decide_eq_true (by kernel_rfl)) k1 bel lt1) trodAll_mk0)), rfl, bel.frame _, fun h => by cases h⟩

theorem over : Rows.fnExactManySumRow.holds Try.pinned (OpenSpec.ofChange Rows.fnExactManySumSpec) :=
  OpenClaim.holds_of_wide 12 Try.f12 rfl rfl rfl rfl rfl rfl rfl ⟨rfl, rfl, rfl, rfl, rfl⟩ rfl rfl rfl rfl rfl (by kernel_rfl) Try.func12 (by kernel_rfl)
    (of_decide_eq_true (by kernel_rfl)) (by unfold Func.isWrapper; first | (rw [if_pos (by decide +kernel)]; kernel_rfl) | (rw [if_neg (by decide +kernel)]; exact ⟨rfl, rfl⟩))
    (fun os started H enc _ => lifted os started H enc)

theorem proved : Rows.FnExactManySumSaid := over
#print axioms proved
end Go.Proofs.Ythhehbcnpmjicaa.fnExactManySum
