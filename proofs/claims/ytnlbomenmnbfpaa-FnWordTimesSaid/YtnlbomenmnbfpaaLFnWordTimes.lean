/-
  Proved: FnWordTimes: Products go into sums. In full: Of a sum it is the sum of both products; with a sign or without it is the same word. (P68) It returns true for all arguments, and they read afterwards as before. Conditions: none.
-/
import Derived.Test.YtnlbomenmnbfpaaAlive
import Derived.Test.YtnlbomenmnbfpaaRows
import Derived.WalkKit
import Derived.ProofKit
import Derived.OpenShut
import Derived.ShutString
import Derived.ChangeOld
import Derived.Below
import Derived.Carry
namespace Go.Proofs.Ytnlbomenmnbfpaa.fnWordTimes
open Go Go.ChangeShapes Go.WideShapes Go.ChangeAt Go.RowKit Bw
open Go.ChangeMaps (open_string shut_string)
set_option linter.unusedVariables false

theorem own : ownKnob Try.prog.godebug = none := by kernel_rfl
theorem laidOut : laidOutB Try.prog = true := by kernel_rfl

theorem walk (a0 : Option Addr) (len0 cap0 : Nat) (z0 : List Int) (a1 : Option Addr) (len1 cap1 : Nat) (z1 : List Int) (w : World) (w0 : IsRow .u8 w a0 len0 cap0 z0) (w1 : IsRow .u8 w a1 len1 cap1 z1) :
    Calls Try.prog 4 #[.slice a0 len0 cap0, .slice a1 len1 cap1] w fun e w' => e = .returned (.bool true) ∧ Below w.heap.size w w' := by
  by_cases hbig : (1048576 : Int) < (len0 : Int)
  · go_enter Try.func4, Try.ntmps4
    go_wp2_with fail
    go_ret
    exact ⟨rfl, Below.refl _ _⟩
  · by_cases hbig1 : (1048576 : Int) < (len1 : Int)
    · go_enter Try.func4, Try.ntmps4
      go_wp2_with fail
      go_ret
      exact ⟨rfl, Below.refl _ _⟩
    · go_enter Try.func4, Try.ntmps4
      go_wp2_with fail
      refine (drawWordTimes _ _ _ z0 _ w0).mono ?_
      rintro e wd ⟨k, x, y, rfl, hk, hx, hy, hb⟩
      by_cases hv : v2 k x y = true
      · obtain ⟨h1, h2, h3, h4, h5, h6, h12⟩ := v2_bd hv
        obtain ⟨ha, hbb⟩ := v2_iff.mp hv
        have hp := pw_pos k
        have hsh := shl_one (k := k) (by omega)
        obtain ⟨c, hc⟩ : ∃ c, (len1 : Int) * 41 % pw k = c := ⟨_, rfl⟩
        have hcv : vX k c = true := hc ▸ vX_mod (vX_vW ha) _
        have ht : ((len1 : Int) * 41).tmod (pw k) = c := by rw [Int.tmod_eq_emod_of_nonneg (by omega)]; exact hc
        have r1 := times_comm hv
        have r2 := times_add hv hcv
        have r3 := times_signed hv
        rw [signedOf_eq ha, signedOf_eq hbb] at r3
        have s1 := signedOf_eq ha
        have s2 := signedOf_eq hbb
        have b1 := sprod_bd ha hbb
        have b3 := IntWalk.i64_in (sg k x * sg k y) (by omega)
        have hX0 := (vX_iff.mp (times_ok hv)).2.2.1
        obtain ⟨X, hX⟩ : ∃ X, wtimes k x y = X := ⟨_, rfl⟩
        rw [hX] at r1 r2 r3 hX0
        obtain ⟨S, hS⟩ : ∃ S, wadd k y c = S := ⟨_, rfl⟩
        rw [hS] at r2
        obtain ⟨T, hT⟩ : ∃ T, wtimes k x c = T := ⟨_, rfl⟩
        rw [hT] at r2
        clear hcv hc hv ha hbb
        go_wp2_with (first | (go_at_call 23; refine (over hb (wtimesI_any _ _ _ _)).mono ?_; rintro e w' ⟨rfl, hb⟩) | (go_at_call 24; refine (wtimesS_any _ _ _ _).mono ?_; rintro e w' ⟨rfl, rfl⟩) | (go_at_call 25; refine (over hb (waddI_any _ _ _ _)).mono ?_; rintro e w' ⟨rfl, hb⟩) | (go_at_call 26; refine (wordOfI_any _ _ _).mono ?_; rintro e w' ⟨rfl, rfl⟩) | (go_at_call 27; refine (signedOfI_any _ _ _).mono ?_; rintro e w' ⟨rfl, rfl⟩) | (go_at_call 19; refine (over hb (alive_any _)).mono ?_; rintro e w' ⟨rfl, hb⟩))
        go_ret
        exact ⟨rfl, hb⟩
      · have hv : v2 k x y = false := by simpa using hv
        have e0 : wtimes k x y = -1 := by unfold wtimes; rw [hv]; rfl
        go_wp2_with (first | (go_at_call 23; refine (over hb (wtimesI_any _ _ _ _)).mono ?_; rintro e w' ⟨rfl, hb⟩) | (go_at_call 24; refine (wtimesS_any _ _ _ _).mono ?_; rintro e w' ⟨rfl, rfl⟩) | (go_at_call 25; refine (over hb (waddI_any _ _ _ _)).mono ?_; rintro e w' ⟨rfl, hb⟩) | (go_at_call 26; refine (wordOfI_any _ _ _).mono ?_; rintro e w' ⟨rfl, rfl⟩) | (go_at_call 27; refine (signedOfI_any _ _ _).mono ?_; rintro e w' ⟨rfl, rfl⟩) | (go_at_call 19; refine (over hb (alive_any _)).mono ?_; rintro e w' ⟨rfl, hb⟩))
        go_ret
        exact ⟨rfl, hb⟩

set_option maxRecDepth 100000 in
theorem lifted (os : Os) (started : os.Started) (H : Type) (enc : TypeId × Value → H) :
    ReturnsInHanded {} Try.checked os 4 .any (Rows.fnWordTimesSpec.pre6 enc Try.prog Try.f4 Rows.fnWordTimesRow.domain false) (Rows.fnWordTimesSpec.post enc Try.prog Try.f4 false true false false) := by
  refine returnsInHanded_of_change (C := Try.checked) own started (by kernel_rfl) Try.func4
    (ChangeSpec.witness6 (enc := enc) (C := Try.checked) false ⟨#[], #[.slice none 0 0, .slice none 0 0], []⟩ 8 (by kernel_rfl) (by kernel_rfl) (by kernel_rfl) (by kernel_rfl)) ?_
  intro W base args ds gs before hval0 hW hcnd _
  have hval : ∀ (j : Nat) t v, Try.f4.params[j]? = some t → args[j]? = some v → Value.okWide Try.prog W .any base t v := hval0
  have hW' := hW
  obtain ⟨p, q, hA0, hV, rfl, hfz, hnd⟩ := hW
  have hA : DataW.TrodAll enc Try.prog W 0 (fun _ => true) true Try.f4.params.toList args.toList ds p := hA0
  rw [Try.params4] at hA hval
  obtain ⟨v0, vs0, d0, ds0, p0, q0, hargs, rfl, rfl, h0, r0⟩ := trodAll_cons hA
  obtain ⟨v1, vs1, d1, ds1, p1, q1, rfl, rfl, rfl, h1, r1⟩ := trodAll_cons r0
  obtain ⟨rfl, rfl, rfl⟩ := trodAll_nil r1
  obtain rfl : args = #[v0, v1] := by cases args; simp_all
  obtain ⟨rfl, rfl⟩ := trodVars_none hV
  obtain ⟨a0, len0, cap0, rfl⟩ := okWide_slice Try.underlying22 (hval 0 22 v0 rfl rfl)
  have k0 := h0
  have lt0 : ∀ x ∈ p0, x.block < W.heap.size := by obtain ⟨m, hm⟩ := k0; exact DataW.trod_lt m _ _ _ hm
  obtain ⟨z0, w0⟩ : ∃ zs, IsRow .u8 W a0 len0 cap0 zs := by
    obtain ⟨fuel, hf⟩ := h0
    rcases open_ints Try.underlying22 Try.underlying5 (by kernel_rfl) hf with ⟨hcs, _⟩ | ⟨x, l, c, zs, hcs, _, hl, hm, hz, _, hcell, hwz⟩
    · simp [Value.cells] at hcs
      obtain ⟨rfl, rfl, rfl⟩ := hcs
      exact ⟨[], .inl ⟨rfl, rfl, rfl, rfl⟩⟩
    · simp [Value.cells] at hcs
      obtain ⟨rfl, rfl, rfl⟩ := hcs
      exact ⟨zs, .inr ⟨_, rfl, hl, hm, by simpa using hz, hcell, hwz⟩⟩
  obtain ⟨a1, len1, cap1, rfl⟩ := okWide_slice Try.underlying22 (hval 1 22 v1 rfl rfl)
  have k1 := h1
  have lt1 : ∀ x ∈ p1, x.block < W.heap.size := by obtain ⟨m, hm⟩ := k1; exact DataW.trod_lt m _ _ _ hm
  obtain ⟨z1, w1⟩ : ∃ zs, IsRow .u8 W a1 len1 cap1 zs := by
    obtain ⟨fuel, hf⟩ := h1
    rcases open_ints Try.underlying22 Try.underlying5 (by kernel_rfl) hf with ⟨hcs, _⟩ | ⟨x, l, c, zs, hcs, _, hl, hm, hz, _, hcell, hwz⟩
    · simp [Value.cells] at hcs
      obtain ⟨rfl, rfl, rfl⟩ := hcs
      exact ⟨[], .inl ⟨rfl, rfl, rfl, rfl⟩⟩
    · simp [Value.cells] at hcs
      obtain ⟨rfl, rfl, rfl⟩ := hcs
      exact ⟨zs, .inr ⟨_, rfl, hl, hm, by simpa using hz, hcell, hwz⟩⟩
  clear hA0 hval0
  refine (walk a0 len0 cap0 z0 a1 len1 cap1 z1 W w0 w1).mono fun e W' ⟨he, bel⟩ => ?_
  subst he
  exact ⟨_, rfl, _, _, _, [], _, [], hW', trodAll_mk1 (shut_bool Try.underlying4 _), (trodAll_cons_mk (Below.trod laidOut (by kernel_rfl) (of_decide_eq_true (by kernel_rfl)) k0 bel lt0) (trodAll_cons_mk (Below.trod laidOut (by kernel_rfl) (of_decide_eq_true (by kernel_rfl)) k1 bel lt1) trodAll_mk0)), rfl, bel.frame _, fun h => by cases h⟩

theorem over : Rows.fnWordTimesRow.holds Try.pinned (OpenSpec.ofChange Rows.fnWordTimesSpec) :=
  OpenClaim.holds_of_wide 4 Try.f4 rfl rfl rfl rfl rfl rfl rfl ⟨rfl, rfl, rfl, rfl, rfl⟩ rfl rfl rfl rfl rfl (by kernel_rfl) Try.func4 (by kernel_rfl)
    (of_decide_eq_true (by kernel_rfl)) (by unfold Func.isWrapper; first | (rw [if_pos (by decide +kernel)]; kernel_rfl) | (rw [if_neg (by decide +kernel)]; exact ⟨rfl, rfl⟩))
    (fun os started H enc _ => lifted os started H enc)

theorem proved : Rows.FnWordTimesSaid := over
#print axioms proved
end Go.Proofs.Ytnlbomenmnbfpaa.fnWordTimes
