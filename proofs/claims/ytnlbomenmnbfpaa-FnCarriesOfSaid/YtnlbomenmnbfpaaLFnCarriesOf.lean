/-
  Proved: FnCarriesOf: Carries make the sum. MAIN. In full: With the carry out of the highest bit, times 2 to the power of the width, the word of CarrySum is both words and the first carry together. (P2) It returns true for all arguments, and they read afterwards as before. Conditions: none.
-/
import Derived.Test.YtnlbomenmnbfpaaAlive
import Derived.Test.YtnlbomenmnbfpaaListsB
import Derived.Test.YtnlbomenmnbfpaaSame
import Derived.Test.YtnlbomenmnbfpaaSum
import Derived.Test.YtnlbomenmnbfpaaRows
import Derived.WalkKit
import Derived.ProofKit
import Derived.OpenShut
import Derived.ShutString
import Derived.ChangeOld
import Derived.Below
import Derived.Carry
namespace Go.Proofs.Ytnlbomenmnbfpaa.fnCarriesOf
open Go Go.ChangeShapes Go.WideShapes Go.ChangeAt Go.RowKit Bw
open Go.ChangeMaps (open_string shut_string)
set_option linter.unusedVariables false

theorem own : ownKnob Try.prog.godebug = none := by kernel_rfl
theorem laidOut : laidOutB Try.prog = true := by kernel_rfl
theorem carriesF_full {K : Nat} {x y z : Int} (h : v2 K x y = true) (hz : vbit z = true) : carriesF K x y z = tab (carry x y z) (K + 1) := by
  unfold carriesF; rw [h, hz]; rfl
theorem sum_carries {K : Nat} {x y z : Int} (h : v2 K x y = true) (hz : vbit z = true) : csumF K x y (tab (carry x y z) (K + 1)) + carry x y z K * pw K = x + y + z := by
  have hb := fun j => carry_bd (a := x) (b := y) (vbit_bd hz) j
  have e : csumF K x y (tab (carry x y z) (K + 1)) = csum K x y (fun i => (tab (carry x y z) (K + 1)).getD i 0) :=
    csumF_ok h (by rw [tab_len]; omega) (fun j hj => by
      rw [tab_len] at hj
      rw [tab_get _ _ _ hj, vbit_iff]
      have := hb j
      omega)
  have e2 : csum K x y (fun i => (tab (carry x y z) (K + 1)).getD i 0) = csum K x y (carry x y z) := by
    unfold csum
    refine sumTo_congr _ fun i hi => ?_
    rw [Int.toNat_natCast] at hi
    simp only [tab_get _ _ _ (show i < K + 1 by omega)]
  have r := csum_carries h (c := z)
  rw [Int.toNat_natCast] at r
  rw [e, e2, r]
theorem csumF_bd {K : Nat} {x y z : Int} (h : v2 K x y = true) (hz : vbit z = true) : 0 ≤ csumF K x y (tab (carry x y z) (K + 1)) ∧ csumF K x y (tab (carry x y z) (K + 1)) ≤ 4096 := by
  have r := sum_carries h hz
  have hb := fun j => carry_bd (a := x) (b := y) (vbit_bd hz) j
  have e : csumF K x y (tab (carry x y z) (K + 1)) = csum K x y (fun i => (tab (carry x y z) (K + 1)).getD i 0) :=
    csumF_ok h (by rw [tab_len]; omega) (fun j hj => by
      rw [tab_len] at hj
      rw [tab_get _ _ _ hj, vbit_iff]
      have := hb j
      omega)
  obtain ⟨h1, h2, h3, h4, h5, h6, h12⟩ := v2_bd h
  obtain ⟨_, _, h7, h8⟩ := vX_iff.mp (csum_bd (a := x) (b := y) (f := fun i => (tab (carry x y z) (K + 1)).getD i 0) (vX_vW (v2_iff.mp h).1))
  rw [e]; omega
def Hd (g K cap : Nat) (L : List Int) (W w : World) : Prop := Rd w (.slice (some ⟨g, 0, none⟩) (K + 1) cap) L ∧ Below W.heap.size W w
theorem csum_hd {K g cap : Nat} {x y c S : Int} {L : List Int} {W w : World} (hS : csumF K x y L = S) (hlen : L.length ≤ 1048576) (h : w.cell? ⟨g, K, none⟩ = some (.int .i64 c) ∧ Hd g K cap L W w) :
    Calls Try.prog 58 #[.int .i64 K, .int .i64 x, .int .i64 y, .slice (some ⟨g, 0, none⟩) (K + 1) cap] w fun e w' => e = .returned (.int .i64 S) ∧ (w'.cell? ⟨g, K, none⟩ = some (.int .i64 c) ∧ Hd g K cap L W w') :=
  (csumI_any _ _ _ _ L w h.2.1 hlen).mono fun e w' ⟨he, hb⟩ => ⟨hS ▸ he, (hb.cell (p := ⟨g, K, none⟩) (World.block_lt_of_cell? w _ h.1)).trans h.1, h.2.1.below hb, h.2.2.trans (hb.mono h.2.2.size)⟩
theorem walk (a0 : Option Addr) (len0 cap0 : Nat) (z0 : List Int) (w : World) (w0 : IsRow .u8 w a0 len0 cap0 z0) :
    Calls Try.prog 13 #[.slice a0 len0 cap0] w fun e w' => e = .returned (.bool true) ∧ Below w.heap.size w w' := by
  by_cases hbig : (1048576 : Int) < (len0 : Int)
  · go_enter Try.func13, Try.ntmps13
    go_wp2_with fail
    go_ret
    exact ⟨rfl, Below.refl _ _⟩
  · go_enter Try.func13, Try.ntmps13
    go_wp2_with fail
    refine (drawCarriesOf _ _ _ z0 _ w0).mono ?_
    rintro e wd ⟨k, x, y, z, rfl, hk, hx, hy, hz0, hb⟩
    by_cases hv : (v2 k x y && vbit z) = true
    · obtain ⟨hv2, hvz⟩ : v2 k x y = true ∧ vbit z = true := by simpa using hv
      obtain ⟨h1, h2, h3, h4, h5, h6, h12⟩ := v2_bd hv2
      obtain ⟨K, rfl⟩ : ∃ K : Nat, k = (K : Int) := ⟨k.toNat, by omega⟩
      have r := sum_carries hv2 hvz
      have hf := carriesF_full hv2 hvz
      have hbc := carry_bd (a := x) (b := y) (vbit_bd hvz) K
      have hcp := bit_pw hbc K (by omega)
      have hsb := csumF_bd hv2 hvz
      have hz := vbit_bd hvz
      have hlen : (tab (carry x y z) (K + 1)).length = K + 1 := tab_len _ _
      have hget := tab_get (carry x y z) (K + 1) K (by omega)
      rw [← hf] at r hsb hlen hget
      obtain ⟨L, hL⟩ : ∃ L, carriesF K x y z = L := ⟨_, rfl⟩
      rw [hL] at r hsb hlen hget
      obtain ⟨c, hc⟩ : ∃ c, carry x y z K = c := ⟨_, rfl⟩
      rw [hc] at r hbc hcp hget
      have HLL := Lib.hid hL
      have HLN := Lib.hid hlen
      have HG := Lib.hid hget
      have e1 : IntKind.i64.wrap (c * 2 ^ K) = c * pw K := shl_wrap (k := (K : Int)) (by omega) (by omega)
      obtain ⟨S, hS⟩ : ∃ S, csumF K x y L = S := ⟨_, rfl⟩
      rw [hS] at r hsb
      obtain ⟨P, hP⟩ : ∃ P, c * pw K = P := ⟨_, rfl⟩
      rw [hP] at r hcp e1
      have s1 := IntWalk.i64_in (S + P) (by omega)
      have s2 := IntWalk.i64_in (x + y) (by omega)
      have s3 := IntWalk.i64_in (x + y + z) (by omega)
      have kp : (0 : Int) < (K : Int) := by omega
      have kn : (K : Int) ≤ 12 := by omega
      have l1 : (K : Int) < ((K + 1 : Nat) : Int) := by omega
      have l1b : (K : Int) < (K : Int) + 1 := by omega
      have k0 : (0 : Int) ≤ (K : Int) := by omega
      have l2 := IntWalk.i64_in ((K : Int) + 1) (by omega)
      have HS := Lib.hid hS
      have HR := Lib.hid r
      clear hv hv2 hvz hf hL hlen hget hc hS hP r
      go_wp2_with fail
      refine (over_l hb (carriesI_any _ _ _ _ _)).mono ?_
      rintro e w1 ⟨v0, rfl, ho0, _, hb⟩
      rw [HLL.out] at ho0
      obtain ⟨g, cap, rfl, _, hc0⟩ := own_form ho0 HLN.out (by omega)
      have hcK := hc0 K (by omega)
      rw [HG.out] at hcK
      clear hc0
      go_wp2_with fail
      refine (over_l hb (carriesS_any _ _ _ _ _)).mono ?_
      rintro e w2 ⟨v1, rfl, HO1, hb1, hb⟩
      rw [HLL.out] at HO1
      have R0 : Rd w2 _ _ := ho0.rd.below hb1
      have gl : g < w1.heap.size := World.block_lt_of_cell? w1 _ hcK
      have hcK := (hb1.cell (p := ⟨g, K, none⟩) gl).trans hcK
      have gl : g < w2.heap.size := World.block_lt_of_cell? w2 _ hcK
      have HL := HLN.out
      go_wp2_with fail
      refine (sameL_any _ _ _ _ R0 HO1.rd (by omega)).mono ?_
      rintro e w3 ⟨rfl, hb2⟩
      have R0 := R0.below hb2
      have hb := hb.trans (hb2.mono hb.size)
      have hcK := (hb2.cell (p := ⟨g, K, none⟩) gl).trans hcK
      have gl : g < w3.heap.size := World.block_lt_of_cell? w3 _ hcK
      go_wp2_with fail
      have r := HR.out
      have l3 : (((K + 1 : Nat) : Int) == (K : Int) + 1) = true := by simp
      have HLE : L.length ≤ 1048576 := by rw [HLN.out]; omega
      have HLX := Lib.hid HLE
      have S0 : w3.drew.cell? ⟨g, K, none⟩ = some (.int .i64 c) ∧ Hd g K cap L w w3.drew := ⟨hcK, R0, below_drewN hb 1⟩
      clear HLE R0 HO1 ho0 hb1 hb2 hb
      go_region_held3 (fun w' => w'.cell? ⟨g, K, none⟩ = some (.int .i64 c) ∧ Hd g K cap L w w') (first | assumption | exact S0) (first | (go_at_call 58; refine (csum_hd HS.out HLX.out (by assumption)).mono ?_; rintro e w5 ⟨rfl, hS5⟩))
      all_goals
        go_wp2
        go_ret
        exact ⟨rfl, hS5.2.2⟩
    · have hv : (v2 k x y && vbit z) = false := by simpa using hv
      have HL := Lib.hid (show carriesF k x y z = [] by unfold carriesF; rw [hv]; rfl)
      clear hv
      go_wp2_with fail
      refine (over_l hb (carriesI_any _ _ _ _ _)).mono ?_
      rintro e w1 ⟨v0, rfl, ho0, _, hb⟩
      obtain ⟨a0', n0', c0', rfl, hn0⟩ : ∃ a n c, v0 = .slice a n c ∧ n = 0 := by
        rcases ho0.form with ⟨rfl, hl⟩ | ⟨g, cap, rfl, _, _⟩
        · exact ⟨_, _, _, rfl, rfl⟩
        · exact ⟨_, _, _, rfl, by rw [HL.out]; rfl⟩
      subst hn0
      go_wp2_with fail
      refine (over_l hb (carriesS_any _ _ _ _ _)).mono ?_
      rintro e w2 ⟨v1, rfl, HO1, hb1, hb⟩
      have R0 : Rd w2 _ _ := ho0.rd.below hb1
      have HL2 : (carriesF k x y z).length = 0 := by rw [HL.out]; rfl
      go_wp2_with fail
      refine (sameL_any _ _ _ _ R0 HO1.rd (by omega)).mono ?_
      rintro e w3 ⟨rfl, hb2⟩
      have R0 := R0.below hb2
      have hb := hb.trans (hb2.mono hb.size)
      clear HL2
      go_wp2_with (first | (go_at_call 19; refine (over hb (alive_any _)).mono ?_; rintro e w' ⟨rfl, hb⟩))
      go_ret
      exact ⟨rfl, hb⟩

set_option maxRecDepth 100000 in
theorem lifted (os : Os) (started : os.Started) (H : Type) (enc : TypeId × Value → H) :
    ReturnsInHanded {} Try.checked os 13 .any (Rows.fnCarriesOfSpec.pre6 enc Try.prog Try.f13 Rows.fnCarriesOfRow.domain false) (Rows.fnCarriesOfSpec.post enc Try.prog Try.f13 false true false false) := by
  refine returnsInHanded_of_change (C := Try.checked) own started (by kernel_rfl) Try.func13
    (ChangeSpec.witness6 (enc := enc) (C := Try.checked) false ⟨#[], #[.slice none 0 0], []⟩ 8 (by kernel_rfl) (by kernel_rfl) (by kernel_rfl) (by kernel_rfl)) ?_
  intro W base args ds gs before hval0 hW hcnd _
  have hval : ∀ (j : Nat) t v, Try.f13.params[j]? = some t → args[j]? = some v → Value.okWide Try.prog W .any base t v := hval0
  have hW' := hW
  obtain ⟨p, q, hA0, hV, rfl, hfz, hnd⟩ := hW
  have hA : DataW.TrodAll enc Try.prog W 0 (fun _ => true) true Try.f13.params.toList args.toList ds p := hA0
  rw [Try.params13] at hA hval
  obtain ⟨v0, vs0, d0, ds0, p0, q0, hargs, rfl, rfl, h0, r0⟩ := trodAll_cons hA
  obtain ⟨rfl, rfl, rfl⟩ := trodAll_nil r0
  obtain rfl : args = #[v0] := by cases args; simp_all
  obtain ⟨rfl, rfl⟩ := trodVars_none hV
  obtain ⟨a0, len0, cap0, rfl⟩ := okWide_slice Try.underlying22 (hval 0 22 v0 rfl rfl)
  have k0 := h0
  have lt0 : ∀ x ∈ p0, x.block < W.heap.size := by obtain ⟨m, hm⟩ := k0; exact DataW.trod_lt m _ _ _ hm
  obtain ⟨z0, w0⟩ : ∃ zs, IsRow .u8 W a0 len0 cap0 zs := by
    obtain ⟨fuel, hf⟩ := h0
    rcases open_ints Try.underlying22 Try.underlying5 (by kernel_rfl) hf with ⟨hcs, _⟩ | ⟨x, l, c, zs, hcs, _, hl, hm, hz, _, hcell, hwz⟩
    · simp [Value.cells] at hcs
      obtain ⟨rfl, rfl, rfl⟩ := hcs
      exact ⟨[], .inl ⟨rfl, rfl, rfl, rfl⟩⟩
    · simp [Value.cells] at hcs
      obtain ⟨rfl, rfl, rfl⟩ := hcs
      exact ⟨zs, .inr ⟨_, rfl, hl, hm, by simpa using hz, hcell, hwz⟩⟩
  clear hA0 hval0
  refine (walk a0 len0 cap0 z0 W w0).mono fun e W' ⟨he, bel⟩ => ?_
  subst he
  exact ⟨_, rfl, _, _, _, [], _, [], hW', trodAll_mk1 (shut_bool Try.underlying4 _), (trodAll_cons_mk (Below.trod laidOut (by kernel_rfl) (of_decide_eq_true (by kernel_rfl)) k0 bel lt0) trodAll_mk0), rfl, bel.frame _, fun h => by cases h⟩

theorem over : Rows.fnCarriesOfRow.holds Try.pinned (OpenSpec.ofChange Rows.fnCarriesOfSpec) :=
  OpenClaim.holds_of_wide 13 Try.f13 rfl rfl rfl rfl rfl rfl rfl ⟨rfl, rfl, rfl, rfl, rfl⟩ rfl rfl rfl rfl rfl (by kernel_rfl) Try.func13 (by kernel_rfl)
    (of_decide_eq_true (by kernel_rfl)) (by unfold Func.isWrapper; first | (rw [if_pos (by decide +kernel)]; kernel_rfl) | (rw [if_neg (by decide +kernel)]; exact ⟨rfl, rfl⟩))
    (fun os started H enc _ => lifted os started H enc)

theorem proved : Rows.FnCarriesOfSaid := over
#print axioms proved
end Go.Proofs.Ytnlbomenmnbfpaa.fnCarriesOf
