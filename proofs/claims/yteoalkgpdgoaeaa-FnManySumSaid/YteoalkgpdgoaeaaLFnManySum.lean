/-
  Proved: FnManySum: However they are added, the sum is one. MAIN. In full: It is WordAdd of all words, one after the other; and from the last one to the first one it is the same. (P5) It returns true for all arguments, and they read afterwards as before. Conditions: none.
-/
import Derived.Test.YteoalkgpdgoaeaaAlive
import Derived.Test.YteoalkgpdgoaeaaMany
import Derived.Test.YteoalkgpdgoaeaaDrawsM
import Derived.Test.YteoalkgpdgoaeaaRows
import Derived.WalkKit
import Derived.ProofKit
import Derived.OpenShut
import Derived.ShutString
import Derived.ChangeOld
import Derived.Below
import Derived.Carry
namespace Go.Proofs.Yteoalkgpdgoaeaa.fnManySum
open Go Go.ChangeShapes Go.WideShapes Go.ChangeAt Go.RowKit Bw
open Go.ChangeMaps (open_string shut_string)
set_option linter.unusedVariables false

theorem own : ownKnob Try.prog.godebug = none := by kernel_rfl
theorem laidOut : laidOutB Try.prog = true := by kernel_rfl
theorem isum_drop {l : List Int} (m : Nat) (h : m < l.length) : l.drop m = l.getD m 0 :: l.drop (m + 1) := by
  rw [List.drop_eq_getElem_cons h]; simp [List.getD, h]
theorem back_step {k : Int} {l : List Int} (hk : vW k = true) (ha : allX k l = true) (m : Nat) (h : m < l.length) :
    wadd k (isum (l.drop (m + 1)) % pw k) (l.getD m 0) = isum (l.drop m) % pw k ∧ (l.drop m).reverse = (l.drop (m + 1)).reverse ++ [l.getD m 0] := by
  refine ⟨?_, by rw [isum_drop m h, List.reverse_cons]⟩
  rw [wadd_eq (v2_mk (vX_mod hk _) (allX_get ha m h)), Int.emod_add_emod, isum_drop m h, isum_cons, Int.add_comm]
theorem many_back {k : Int} {l : List Int} (hk : vW k = true) (ha : allX k l = true) (hl : l.length ≤ 20) : manySum k l.reverse = manySum k l := by
  rw [many_ok hk ha hl, many_ok hk (by unfold allX at *; rw [List.all_reverse]; exact ha) (by simpa using hl), isum_reverse]
theorem walk (a0 : Option Addr) (len0 cap0 : Nat) (z0 : List Int) (w : World) (w0 : IsRow .u8 w a0 len0 cap0 z0) :
    Calls Try.prog 3 #[.slice a0 len0 cap0] w fun e w' => e = .returned (.bool true) ∧ Below w.heap.size w w' := by
  by_cases hbig : (1048576 : Int) < (len0 : Int)
  · go_enter Try.func3, Try.ntmps3
    go_wp2_with fail
    go_ret
    exact ⟨rfl, Below.refl _ _⟩
  · obtain ⟨i0, hi, hz0, hz1, hz2⟩ := info_parts info_int
    go_enter Try.func3, Try.ntmps3
    go_wp2_with fail
    refine (drawManySum _ _ _ z0 _ w0).mono ?_
    rintro e wd ⟨k, v, l, rfl, hk, hr, hl, hb⟩
    obtain ⟨x0, c0, rfl⟩ := hr.slice
    have HR := Lib.hid hr
    clear hr
    by_cases hv : (vW k && (allX k l && decide (l.length ≤ 20))) = true
    · obtain ⟨hv1, hv2, hv3⟩ : vW k = true ∧ (allX k l = true ∧ l.length ≤ 20) := by simpa using hv
      have e1 := many_ok hv1 hv2 hv3
      have e2 := many_back hv1 hv2 hv3
      have x0p : 0 ≤ manySum k l := by rw [e1]; exact Int.emod_nonneg _ (by have := pw_pos k; omega)
      obtain ⟨X, hX⟩ : ∃ X, manySum k l = X := ⟨_, rfl⟩
      rw [hX] at e1 e2 x0p
      have HX := Lib.hid hX
      have HE := Lib.hid e1
      have HB := Lib.hid e2
      have HS := Lib.hid (fun m hm => back_step hv1 hv2 m hm : ∀ m, m < l.length → _)
      clear hv hv1 hv2 hX e1 e2
      go_wp2_with fail
      refine (manyI_any _ _ l _ HR.out (by omega)).mono ?_
      rintro e w1 ⟨rfl, hb1⟩
      rw [HX.out]
      have R1 := Lib.hid (HR.out.below hb1)
      have hb := hb.trans (hb1.mono hb.size)
      clear hb1
      go_wp2_with fail
      refine (manyS_any _ _ l _ R1.out (by omega)).mono ?_
      rintro e w2 ⟨rfl, hb2⟩
      rw [HX.out]
      have R2 := Lib.hid (R1.out.below hb2)
      have hb := hb.trans (hb2.mono hb.size)
      clear hb2
      have s1 := IntWalk.i64_in ((l.length : Int) - 1) (by omega)
      have HM := Lib.hid (Own.made w2 w2.heap.size (Nat.le_refl _))
      have HM2 := Lib.hid (below_new1 w2 (.cells #[] 3))
      go_wp2
      go_loopw [6, 7, 8] (fun s v i wr => ∃ (n : Nat) (p : Int), n ≤ l.length ∧ p = (n : Int) - 1 ∧ i = .int .i64 p ∧ s = .int .i64 (isum (l.drop n) % pw k) ∧ Own wr w2.heap.size v (l.drop n).reverse ∧ Below w2.heap.size w2 wr) (fun _ _ i _ => (intOf i + 1).toNat)
      case atStart =>
        refine ⟨l.length, _, Nat.le_refl _, rfl, rfl, ?_, ?_, HM2.out⟩
        · rw [List.drop_length]; simp [isum]
        · rw [List.drop_length]; exact HM.out
      case round =>
        obtain ⟨W1, rfl⟩ : ∃ W1, W1 = wr := ⟨_, rfl⟩
        obtain ⟨n, p, hn, hp, rfl, rfl, hown, hb3⟩ := hrel
        by_cases hp0 : 0 ≤ p
        · obtain ⟨m, rfl⟩ : ∃ m : Nat, p = (m : Int) := ⟨p.toNat, by omega⟩
          obtain rfl : n = m + 1 := by omega
          obtain ⟨g, c, he, hg, hcell⟩ := R2.out.at_ (by omega)
          obtain ⟨rfl, rfl⟩ : x0 = some ⟨g, 0, none⟩ ∧ c0 = c := by injection he with h1 h2 h3; exact ⟨h1, h3⟩
          have c1 := (hb3.cell (p := ⟨g, m, none⟩) hg).trans (hcell m (by omega))
          obtain ⟨t1, t2⟩ := HS.out m (by omega)
          obtain ⟨x, hx⟩ : ∃ x, l.getD m 0 = x := ⟨_, rfl⟩
          rw [hx] at c1 t1 t2
          obtain ⟨S, hS⟩ : ∃ S, isum (l.drop (m + 1)) % pw k = S := ⟨_, rfl⟩
          rw [hS] at t1 ⊢
          have T1 := Lib.hid t1
          have T2 := Lib.hid t2
          obtain ⟨L, hL⟩ : ∃ L, (l.drop (m + 1)).reverse = L := ⟨_, rfl⟩
          have HLL : L.length ≤ 60 := by rw [← hL]; simp; omega
          rw [hL] at hown
          have HL := Lib.hid hL
          have HOWN := Lib.hid hown
          have hbg : g < W1.heap.size := Nat.lt_of_lt_of_le hg hb3.size
          have HB3 := Lib.hid hb3
          clear t1 t2 hx hS hL hown he hcell hp hb3
          have k0 : (0 : Int) ≤ (m : Int) := by omega
          have k1 : (m : Int) < (l.length : Int) := by omega
          have s2 := IntWalk.i64_in ((m : Int) - 1) (by omega)
          go_wp2_with fail
          refine (waddI_any _ _ _ _).mono ?_
          rintro e w5 ⟨rfl, hb5⟩
          have c2 := (hb5.cell (p := ⟨g, m, none⟩) hbg).trans c1
          have hown := HOWN.out.kept_below hb5
          have HB5 := Lib.hid (HB3.out.trans (hb5.mono HB3.out.size))
          have hsz5 := HB5.out.size
          clear hb5 c1
          go_wp2_with (at_builtin; refine wpList_append_own _ rfl _ _ 23 rfl w2.heap.size 3 i0 (.int .i64 0) 1 8 Try.underlying23 hi hz0 hz1 hz2 rfl (by decide) _ _ _ rfl (World.ownsRow.alloc hown _) ⟨w5.heap.size, 0, none⟩ 1 1 [.int .i64 x] rfl rfl ?z1 ?z2 ?z3 ?z4 ?z5 ?_)
          case z1 =>
            intro j u hj
            match j, hj with
            | 0, hj => simp at hj; subst hj; first | (simp [Addr.add]; done) | exact cell_new _ _
          case z2 => intro u hu; simp at hu; subst hu; rfl
          case z3 => unfold maxLen; omega
          case z4 => omega
          case z5 => simp; omega
          intro v' w9 hown' hgrow _
          have R := push_rel HB5.out HB5.out.size hown hown' hgrow
          have HR9 := Lib.hid R
          clear R hown' hgrow hown
          go_wp2
          go_roundw
          case rel => exact ⟨m, (m : Int) - 1, by omega, rfl, by go_num, by rw [T1.out], by rw [T2.out, HL.out]; exact HR9.out.1, HR9.out.2⟩
          case measure => simp [intOf]
        · obtain rfl : n = 0 := by omega
          rw [List.drop_zero, ← HE.out]
          rw [List.drop_zero] at hown
          have RB := Lib.hid hown.rd
          have hb := hb.trans (hb3.mono hb.size)
          clear hown hb3 hp
          have hlt : p < 0 := by omega
          go_wp2_with fail
          refine (over hb (manyI_any _ _ l.reverse _ RB.out (by simp; omega))).mono ?_
          rintro e w6 ⟨rfl, hb6⟩
          rw [HB.out]
          go_wp2
          go_ret
          exact ⟨rfl, hb6⟩
    · have hv : (vW k && (allX k l && decide (l.length ≤ 20))) = false := by simpa using hv
      have HX := Lib.hid (show manySum k l = -1 by unfold manySum; rw [hv]; rfl)
      clear hv
      go_wp2_with fail
      refine (manyI_any _ _ l _ HR.out (by omega)).mono ?_
      rintro e w1 ⟨rfl, hb1⟩
      rw [HX.out]
      have R1 := HR.out.below hb1
      have hb := hb.trans (hb1.mono hb.size)
      go_wp2_with fail
      refine (manyS_any _ _ l _ R1 (by omega)).mono ?_
      rintro e w2 ⟨rfl, hb2⟩
      rw [HX.out]
      have hb := hb.trans (hb2.mono hb.size)
      go_wp2_with (first | (go_at_call 18; refine (over hb (alive_any _)).mono ?_; rintro e w' ⟨rfl, hb⟩))
      go_ret
      exact ⟨rfl, hb⟩

set_option maxRecDepth 100000 in
theorem lifted (os : Os) (started : os.Started) (H : Type) (enc : TypeId × Value → H) :
    ReturnsInHanded {} Try.checked os 3 .any (Rows.fnManySumSpec.pre6 enc Try.prog Try.f3 Rows.fnManySumRow.domain false) (Rows.fnManySumSpec.post enc Try.prog Try.f3 false true false false) := by
  refine returnsInHanded_of_change (C := Try.checked) own started (by kernel_rfl) Try.func3
    (ChangeSpec.witness6 (enc := enc) (C := Try.checked) false ⟨#[], #[.slice none 0 0], []⟩ 8 (by kernel_rfl) (by kernel_rfl) (by kernel_rfl) (by kernel_rfl)) ?_
  intro W base args ds gs before hval0 hW hcnd _
  have hval : ∀ (j : Nat) t v, Try.f3.params[j]? = some t → args[j]? = some v → Value.okWide Try.prog W .any base t v := hval0
  have hW' := hW
  obtain ⟨p, q, hA0, hV, rfl, hfz, hnd⟩ := hW
  have hA : DataW.TrodAll enc Try.prog W 0 (fun _ => true) true Try.f3.params.toList args.toList ds p := hA0
  rw [Try.params3] at hA hval
  obtain ⟨v0, vs0, d0, ds0, p0, q0, hargs, rfl, rfl, h0, r0⟩ := trodAll_cons hA
  obtain ⟨rfl, rfl, rfl⟩ := trodAll_nil r0
  obtain rfl : args = #[v0] := by cases args; simp_all
  obtain ⟨rfl, rfl⟩ := trodVars_none hV
  obtain ⟨a0, len0, cap0, rfl⟩ := okWide_slice Try.underlying22 (hval 0 22 v0 rfl rfl)
  have k0 := h0
  have lt0 : ∀ x ∈ p0, x.block < W.heap.size := by obtain ⟨m, hm⟩ := k0; exact DataW.trod_lt m _ _ _ hm
  obtain ⟨z0, w0⟩ : ∃ zs, IsRow .u8 W a0 len0 cap0 zs := by
    obtain ⟨fuel, hf⟩ := h0
    rcases open_ints Try.underlying22 Try.underlying5 (by kernel_rfl) hf with ⟨hcs, _⟩ | ⟨x, l, c, zs, hcs, _, hl, hm, hz, _, hcell, hwz⟩
    · simp [Value.cells] at hcs
      obtain ⟨rfl, rfl, rfl⟩ := hcs
      exact ⟨[], .inl ⟨rfl, rfl, rfl, rfl⟩⟩
    · simp [Value.cells] at hcs
      obtain ⟨rfl, rfl, rfl⟩ := hcs
      exact ⟨zs, .inr ⟨_, rfl, hl, hm, by simpa using hz, hcell, hwz⟩⟩
  clear hA0 hval0
  refine (walk a0 len0 cap0 z0 W w0).mono fun e W' ⟨he, bel⟩ => ?_
  subst he
  exact ⟨_, rfl, _, _, _, [], _, [], hW', trodAll_mk1 (shut_bool Try.underlying4 _), (trodAll_cons_mk (Below.trod laidOut (by kernel_rfl) (of_decide_eq_true (by kernel_rfl)) k0 bel lt0) trodAll_mk0), rfl, bel.frame _, fun h => by cases h⟩

theorem over : Rows.fnManySumRow.holds Try.pinned (OpenSpec.ofChange Rows.fnManySumSpec) :=
  OpenClaim.holds_of_wide 3 Try.f3 rfl rfl rfl rfl rfl rfl rfl ⟨rfl, rfl, rfl, rfl, rfl⟩ rfl rfl rfl rfl rfl (by kernel_rfl) Try.func3 (by kernel_rfl)
    (of_decide_eq_true (by kernel_rfl)) (by unfold Func.isWrapper; first | (rw [if_pos (by decide +kernel)]; kernel_rfl) | (rw [if_neg (by decide +kernel)]; exact ⟨rfl, rfl⟩))
    (fun os started H enc _ => lifted os started H enc)

theorem proved : Rows.FnManySumSaid := over
#print axioms proved
end Go.Proofs.Yteoalkgpdgoaeaa.fnManySum
