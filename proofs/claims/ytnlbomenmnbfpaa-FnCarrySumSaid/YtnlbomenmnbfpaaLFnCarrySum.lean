/-
  Proved: FnCarrySum: Without carries it is the bits that just one has. In full: For carries of 0 alone it is WordXor; for CarriesOf with 0 it is WordAdd. (P81) It returns true for all arguments, and they read afterwards as before. Conditions: none.
-/
import Derived.Test.YtnlbomenmnbfpaaAlive
import Derived.Test.YtnlbomenmnbfpaaListsB
import Derived.Test.YtnlbomenmnbfpaaSum
import Derived.Test.YtnlbomenmnbfpaaDrawsB
import Derived.Test.YtnlbomenmnbfpaaRows
import Derived.WalkKit
import Derived.ProofKit
import Derived.OpenShut
import Derived.ShutString
import Derived.ChangeOld
import Derived.Below
import Derived.Carry
namespace Go.Proofs.Ytnlbomenmnbfpaa.fnCarrySum
open Go Go.ChangeShapes Go.WideShapes Go.ChangeAt Go.RowKit Bw
open Go.ChangeMaps (open_string shut_string)
set_option linter.unusedVariables false

theorem own : ownKnob Try.prog.godebug = none := by kernel_rfl
theorem laidOut : laidOutB Try.prog = true := by kernel_rfl
theorem over_l {P : Program} {f : FuncId} {args : Array Value} {W w : World} {l : List Int} (hb : Below W.heap.size W w)
    (h : Calls P f args w fun e w' => LRet l w e w') : Calls P f args w fun e w' => ∃ v, e = .returned v ∧ Own w' w.heap.size v l ∧ Below w.heap.size w w' ∧ Below W.heap.size W w' :=
  h.mono fun _ _ ⟨v, he, ho, h⟩ => ⟨v, he, ho, h, hb.trans (h.mono hb.size)⟩
theorem own_zeros {w : World} {B : Nat} {v : Value} {K : Nat} (h : w.ownsRow B 3 1 v K (madeCells (Value.cells (.int .i64 0)) (K * 1)).toList) : Own w B v (List.replicate K 0) := by
  unfold Own; rw [List.length_replicate, ← zeros]; exact h
theorem sum_zero {K : Nat} {x y : Int} (h : v2 K x y = true) : csumF K x y (List.replicate K 0) = wxor K x y := by
  have hg : ∀ i, (List.replicate K (0 : Int)).getD i 0 = 0 := fun i => by
    by_cases hi : i < K
    · simp [List.getD, hi]
    · simp [List.getD, hi]
  rw [csumF_ok h (by simp) (fun j _ => by rw [hg j]; rfl)]
  simp only [hg]
  exact csum_zero h
theorem sum_add {K : Nat} {x y : Int} (h : v2 K x y = true) : csumF K x y (carriesF K x y 0) = wadd K x y := by
  have e0 : carriesF K x y 0 = tab (carry x y 0) (K + 1) := by unfold carriesF; rw [h]; rfl
  have hb := fun j => carry_bd (a := x) (b := y) (c := 0) (by omega) j
  rw [e0, csumF_ok h (by rw [tab_len]; omega) (fun j hj => by
      rw [tab_len] at hj
      rw [tab_get _ _ _ hj, vbit_iff]
      have := hb j
      omega), ← csum_add h]
  unfold csum
  refine sumTo_congr _ fun i hi => ?_
  rw [Int.toNat_natCast] at hi
  simp only [tab_get _ _ _ (show i < K + 1 by omega)]
theorem walk (a0 : Option Addr) (len0 cap0 : Nat) (z0 : List Int) (w : World) (w0 : IsRow .u8 w a0 len0 cap0 z0) :
    Calls Try.prog 15 #[.slice a0 len0 cap0] w fun e w' => e = .returned (.bool true) ∧ Below w.heap.size w w' := by
  by_cases hbig : (1048576 : Int) < (len0 : Int)
  · go_enter Try.func15, Try.ntmps15
    go_wp2_with fail
    go_ret
    exact ⟨rfl, Below.refl _ _⟩
  · go_enter Try.func15, Try.ntmps15
    go_wp2_with fail
    refine (drawCarrySum _ _ _ z0 _ w0).mono ?_
    rintro e wd ⟨k, x, y, v, l, rfl, hk, hx, hy, hr, hl, hb⟩
    by_cases hv : (v2 k x y && (decide (k.toNat ≤ l.length) && l.all vbit)) = true
    · obtain ⟨hv2, hlen⟩ : v2 k x y = true ∧ (k.toNat ≤ l.length ∧ l.all vbit = true) := by simpa using hv
      obtain ⟨h1, h2, h3, h4, h5, h6, h12⟩ := v2_bd hv2
      obtain ⟨K, rfl⟩ : ∃ K : Nat, k = (K : Int) := ⟨k.toNat, by omega⟩
      have hX : vX K (csumF K x y l) = true := by
        have e : csumF K x y l = csum K x y (fun i => l.getD i 0) := by unfold csumF; rw [hv]; rfl
        rw [e]; exact csum_bd (vX_vW (v2_iff.mp hv2).1)
      have hX0 := (vX_iff.mp hX).2.2.1
      obtain ⟨X, hXX⟩ : ∃ X, csumF K x y l = X := ⟨_, rfl⟩
      rw [hXX] at hX hX0
      have HX := Lib.hid hXX
      have r1 := sum_zero hv2
      have r2 := sum_add hv2
      have hl0 := carriesF_len K x y 0
      obtain ⟨A, hA⟩ : ∃ A, wxor K x y = A := ⟨_, rfl⟩
      rw [hA] at r1
      obtain ⟨B, hB⟩ : ∃ B, wadd K x y = B := ⟨_, rfl⟩
      rw [hB] at r2
      have H1 := Lib.hid r1
      have H2 := Lib.hid r2
      have HL0 := Lib.hid hl0
      have k0 : (0 : Int) ≤ (K : Int) := by omega
      have k12 : (K : Int) ≤ 12 := by omega
      have k13 : K ≤ 12 := by omega
      obtain ⟨i0, hi, hz0, hz1, hz2⟩ := info_parts info_int
      have HR := Lib.hid hr
      clear hv hv2 hlen hXX r1 r2 hl0 hr
      go_wp2_with fail
      refine (csumI_any _ _ _ _ l _ HR.out (by omega)).mono ?_
      rintro e w1 ⟨rfl, hb1⟩
      rw [HX.out]
      have R1 := HR.out.below hb1
      have hb := hb.trans (hb1.mono hb.size)
      go_wp2_with fail
      refine (csumS_any _ _ _ _ l _ R1 (by omega)).mono ?_
      rintro e w2 ⟨rfl, hb2⟩
      rw [HX.out]
      have hb := hb.trans (hb2.mono hb.size)
      go_wp2_with (first | (go_at_call 31; refine (validI_any _ _ _).mono ?_; rintro e w' ⟨rfl, rfl⟩) | (at_make; refine make_wanted _ (by first | rfl | (simp [Region.wanted, yielded]; done)) _ _ 31 rfl 0 3 i0 (.int .i64 0) 1 Try.underlying31 hi hz0 hz1 .i64 .i64 _ _ K rfl rfl rfl rfl (by rw [hz2]; omega) (by unfold maxLen; omega) (Nat.zero_le _) ?_; intro w3 hown hgrow))
      have hb := hb.grown hgrow hb.size (fun j hj => by cases hj)
      have R3 := (own_zeros hown).rd
      clear hown hgrow
      go_wp2_with fail
      refine (over hb (csumI_any _ _ _ _ (List.replicate K 0) _ R3 (by simp; omega))).mono ?_
      rintro e w4 ⟨rfl, hb⟩
      rw [H1.out]
      go_wp2_with (first | (go_at_call 20; refine (over hb (wxorI_any _ _ _ _)).mono ?_; rintro e w' ⟨rfl, hb⟩))
      refine (over_l hb (carriesI_any _ _ _ _ _)).mono ?_
      rintro e w5 ⟨v5, rfl, ho5, _, hb⟩
      go_wp2_with fail
      refine (over hb (csumI_any _ _ _ _ _ _ ho5.rd (by have := HL0.out; omega))).mono ?_
      rintro e w6 ⟨rfl, hb⟩
      rw [H2.out]
      go_wp2_with (first | (go_at_call 25; refine (over hb (waddI_any _ _ _ _)).mono ?_; rintro e w' ⟨rfl, hb⟩))
      go_ret
      exact ⟨rfl, hb⟩
    · have hv : (v2 k x y && (decide (k.toNat ≤ l.length) && l.all vbit)) = false := by simpa using hv
      have HX := Lib.hid (show csumF k x y l = -1 by unfold csumF; rw [hv]; rfl)
      have HR := Lib.hid hr
      clear hv hr
      go_wp2_with fail
      refine (csumI_any _ _ _ _ l _ HR.out (by omega)).mono ?_
      rintro e w1 ⟨rfl, hb1⟩
      rw [HX.out]
      have R1 := HR.out.below hb1
      have hb := hb.trans (hb1.mono hb.size)
      go_wp2_with fail
      refine (csumS_any _ _ _ _ l _ R1 (by omega)).mono ?_
      rintro e w2 ⟨rfl, hb2⟩
      rw [HX.out]
      have hb := hb.trans (hb2.mono hb.size)
      go_wp2_with (first | (go_at_call 19; refine (over hb (alive_any _)).mono ?_; rintro e w' ⟨rfl, hb⟩))
      go_ret
      exact ⟨rfl, hb⟩

set_option maxRecDepth 100000 in
theorem lifted (os : Os) (started : os.Started) (H : Type) (enc : TypeId × Value → H) :
    ReturnsInHanded {} Try.checked os 15 .any (Rows.fnCarrySumSpec.pre6 enc Try.prog Try.f15 Rows.fnCarrySumRow.domain false) (Rows.fnCarrySumSpec.post enc Try.prog Try.f15 false true false false) := by
  refine returnsInHanded_of_change (C := Try.checked) own started (by kernel_rfl) Try.func15
    (ChangeSpec.witness6 (enc := enc) (C := Try.checked) false ⟨#[], #[.slice none 0 0], []⟩ 8 (by kernel_rfl) (by kernel_rfl) (by kernel_rfl) (by kernel_rfl)) ?_
  intro W base args ds gs before hval0 hW hcnd _
  have hval : ∀ (j : Nat) t v, Try.f15.params[j]? = some t → args[j]? = some v → Value.okWide Try.prog W .any base t v := hval0
  have hW' := hW
  obtain ⟨p, q, hA0, hV, rfl, hfz, hnd⟩ := hW
  have hA : DataW.TrodAll enc Try.prog W 0 (fun _ => true) true Try.f15.params.toList args.toList ds p := hA0
  rw [Try.params15] at hA hval
  obtain ⟨v0, vs0, d0, ds0, p0, q0, hargs, rfl, rfl, h0, r0⟩ := trodAll_cons hA
  obtain ⟨rfl, rfl, rfl⟩ := trodAll_nil r0
  obtain rfl : args = #[v0] := by cases args; simp_all
  obtain ⟨rfl, rfl⟩ := trodVars_none hV
  obtain ⟨a0, len0, cap0, rfl⟩ := okWide_slice Try.underlying22 (hval 0 22 v0 rfl rfl)
  have k0 := h0
  have lt0 : ∀ x ∈ p0, x.block < W.heap.size := by obtain ⟨m, hm⟩ := k0; exact DataW.trod_lt m _ _ _ hm
  obtain ⟨z0, w0⟩ : ∃ zs, IsRow .u8 W a0 len0 cap0 zs := by
    obtain ⟨fuel, hf⟩ := h0
    rcases open_ints Try.underlying22 Try.underlying5 (by kernel_rfl) hf with ⟨hcs, _⟩ | ⟨x, l, c, zs, hcs, _, hl, hm, hz, _, hcell, hwz⟩
    · simp [Value.cells] at hcs
      obtain ⟨rfl, rfl, rfl⟩ := hcs
      exact ⟨[], .inl ⟨rfl, rfl, rfl, rfl⟩⟩
    · simp [Value.cells] at hcs
      obtain ⟨rfl, rfl, rfl⟩ := hcs
      exact ⟨zs, .inr ⟨_, rfl, hl, hm, by simpa using hz, hcell, hwz⟩⟩
  clear hA0 hval0
  refine (walk a0 len0 cap0 z0 W w0).mono fun e W' ⟨he, bel⟩ => ?_
  subst he
  exact ⟨_, rfl, _, _, _, [], _, [], hW', trodAll_mk1 (shut_bool Try.underlying4 _), (trodAll_cons_mk (Below.trod laidOut (by kernel_rfl) (of_decide_eq_true (by kernel_rfl)) k0 bel lt0) trodAll_mk0), rfl, bel.frame _, fun h => by cases h⟩

theorem over : Rows.fnCarrySumRow.holds Try.pinned (OpenSpec.ofChange Rows.fnCarrySumSpec) :=
  OpenClaim.holds_of_wide 15 Try.f15 rfl rfl rfl rfl rfl rfl rfl ⟨rfl, rfl, rfl, rfl, rfl⟩ rfl rfl rfl rfl rfl (by kernel_rfl) Try.func15 (by kernel_rfl)
    (of_decide_eq_true (by kernel_rfl)) (by unfold Func.isWrapper; first | (rw [if_pos (by decide +kernel)]; kernel_rfl) | (rw [if_neg (by decide +kernel)]; exact ⟨rfl, rfl⟩))
    (fun os started H enc _ => lifted os started H enc)

theorem proved : Rows.FnCarrySumSaid := over
#print axioms proved
end Go.Proofs.Ytnlbomenmnbfpaa.fnCarrySum
