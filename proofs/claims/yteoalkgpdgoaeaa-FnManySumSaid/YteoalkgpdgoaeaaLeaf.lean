/-
  THE WALKS OF THE SMALL FUNCTIONS: powers of two, single bits, ranges, validity, remainders. Each contract says what the function answers; conditions: as its premises name them.
-/
import Derived.Test.YteoalkgpdgoaeaaRows
import Derived.Test.YteoalkgpdgoaeaaWords
import Derived.WalkKit
import Derived.ProofKit
import Derived.OwnWalk
import Derived.Lib.Hide
import Derived.WalkSpells
import Derived.BigQuiet
import Derived.Deep.QuietTactic
import Derived.Outline
import Derived.WalkSmall
namespace Go.Proofs.Yteoalkgpdgoaeaa
open Go Go.RowKit Bw
set_option linter.unusedVariables false

theorem ret_int {k : IntKind} {a b : Int} (h : a = b) : Ending.returned (.int k a) = .returned (.int k b) := by rw [h]
theorem ret_bool {a b : Bool} (h : a = b) : Ending.returned (.bool a) = .returned (.bool b) := by rw [h]

theorem power_any (n : Int) (w : World) (h0 : 0 ≤ n) (h1 : n ≤ 40) :
    Calls Try.prog 94 #[.int .i64 n] w fun e w' => e = .returned (.int .i64 (pw n)) ∧ w = w' := by
  have hs := shl_one (k := n) h1
  go_enter Try.func94, Try.ntmps94
  go_wp2
  go_ret
  exact ⟨rfl, rfl⟩
theorem within_any (n lo hi : Int) (w : World) :
    Calls Try.prog 72 #[.int .i64 n, .int .i64 lo, .int .i64 hi] w fun e w' => e = .returned (.bool (inB n lo hi)) ∧ w = w' := by
  by_cases h1 : lo ≤ n
  · have e : inB n lo hi = decide (n ≤ hi) := by unfold inB; simp [h1]
    rw [e]; clear e
    go_enter Try.func72, Try.ntmps72
    go_wp2
    go_ret
    exact ⟨rfl, rfl⟩
  · have e : inB n lo hi = false := by unfold inB; simp [h1]
    rw [e]; clear e
    go_enter Try.func72, Try.ntmps72
    go_wp2
    go_ret
    exact ⟨rfl, rfl⟩
theorem l1In_any (n lo hi : Int) (w : World) :
    Calls Try.prog 62 #[.int .i64 n, .int .i64 lo, .int .i64 hi] w fun e w' => e = .returned (.bool (inB n lo hi)) ∧ w = w' := by
  by_cases h1 : lo ≤ n
  · have e : inB n lo hi = decide (n ≤ hi) := by unfold inB; simp [h1]
    rw [e]; clear e
    go_enter Try.func62, Try.ntmps62
    go_wp2
    go_ret
    exact ⟨rfl, rfl⟩
  · have e : inB n lo hi = false := by unfold inB; simp [h1]
    rw [e]; clear e
    go_enter Try.func62, Try.ntmps62
    go_wp2
    go_ret
    exact ⟨rfl, rfl⟩
theorem isWidth_any (n : Int) (w : World) :
    Calls Try.prog 74 #[.int .i64 n] w fun e w' => e = .returned (.bool (vW n)) ∧ w = w' := by
  go_enter Try.func74, Try.ntmps74
  go_wp2_with (go_at_call 72; refine (within_any _ _ _ _).mono ?_; rintro e w' ⟨rfl, rfl⟩)
  go_ret
  exact ⟨rfl, rfl⟩
theorem greatest_any (n : Int) (w : World) (h0 : 0 ≤ n) (h1 : n ≤ 40) :
    Calls Try.prog 75 #[.int .i64 n] w fun e w' => e = .returned (.int .i64 (pw n - 1)) ∧ w = w' := by
  have hp := pw_pos n
  have h40 : pw n ≤ 1099511627776 := pw_mono (b := 40) h1
  go_enter Try.func75, Try.ntmps75
  go_wp2_with (go_at_call 94; refine (power_any _ _ (by omega) (by omega)).mono ?_; rintro e w' ⟨rfl, rfl⟩)
  go_ret
  exact ⟨rfl, rfl⟩
theorem bit_any (x k : Int) (w : World) (h0 : 0 ≤ k) (h1 : k ≤ 40) :
    Calls Try.prog 93 #[.int .i64 x, .int .i64 k] w fun e w' => e = .returned (.int .i64 (bt x k)) ∧ w = w' := by
  have ha := and_one (x / 2 ^ k.toNat)
  go_enter Try.func93, Try.ntmps93
  go_wp2
  go_ret
  exact ⟨rfl, rfl⟩
theorem cut_any (k n : Int) (w : World) (h0 : 0 ≤ k) (h1 : k ≤ 40) :
    Calls Try.prog 76 #[.int .i64 k, .int .i64 n] w fun e w' => e = .returned (.int .i64 (n % pw k)) ∧ w = w' := by
  have ha := and_mask h1 n
  go_enter Try.func76, Try.ntmps76
  go_wp2_with (go_at_call 75; refine (greatest_any _ _ (by omega) (by omega)).mono ?_; rintro e w' ⟨rfl, rfl⟩)
  go_ret
  exact ⟨rfl, rfl⟩
theorem validI_any (k x : Int) (w : World) :
    Calls Try.prog 33 #[.int .i64 k, .int .i64 x] w fun e w' => e = .returned (.bool (vX k x)) ∧ w = w' := by
  by_cases h : vW k = true
  · have hb := vW_iff.mp h
    rw [← vX_inB h]
    go_enter Try.func33, Try.ntmps33
    go_wp2_with (first | (go_at_call 72; refine (within_any _ _ _ _).mono ?_; rintro e w' ⟨rfl, rfl⟩) | (go_at_call 74; refine (isWidth_any _ _).mono ?_; rintro e w' ⟨rfl, rfl⟩) | (go_at_call 75; refine (greatest_any _ _ (by omega) (by omega)).mono ?_; rintro e w' ⟨rfl, rfl⟩))
    go_ret
    exact ⟨rfl, rfl⟩
  · have h : vW k = false := by simpa using h
    rw [vX_no h]
    go_enter Try.func33, Try.ntmps33
    go_wp2_with (go_at_call 74; refine (isWidth_any _ _).mono ?_; rintro e w' ⟨rfl, rfl⟩)
    go_ret
    exact ⟨rfl, rfl⟩
theorem validS_any (k x : Int) (w : World) :
    Calls Try.prog 34 #[.int .i64 k, .int .i64 x] w fun e w' => e = .returned (.bool (vX k x)) ∧ w = w' := by
  have hv : inB k 1 12 = vW k := rfl
  by_cases h : vW k = true
  · have hb := vW_iff.mp h
    have hs := shl_one (k := k) (by omega)
    have hp := pw_pos k
    have h12 := pw_le12 hb.2
    rw [← vX_inB h]
    go_enter Try.func34, Try.ntmps34
    go_wp2_with (go_at_call 62; refine (l1In_any _ _ _ _).mono ?_; rintro e w' ⟨rfl, rfl⟩)
    go_ret
    exact ⟨rfl, rfl⟩
  · have h : vW k = false := by simpa using h
    rw [vX_no h]
    go_enter Try.func34, Try.ntmps34
    go_wp2_with (go_at_call 62; refine (l1In_any _ _ _ _).mono ?_; rintro e w' ⟨rfl, rfl⟩)
    go_ret
    exact ⟨rfl, rfl⟩
theorem l1Mod_any (k n : Int) (w : World) (h0 : 0 ≤ k) (h1 : k ≤ 40) :
    Calls Try.prog 77 #[.int .i64 k, .int .i64 n] w fun e w' => e = .returned (.int .i64 (n % pw k)) ∧ w = w' := by
  have hs := shl_one (k := k) (by omega)
  have hp := pw_pos k
  have h40 : pw k ≤ 1099511627776 := pw_mono (b := 40) h1
  have hb := tmod_bd hp n
  have hf := tmod_fix hp n
  by_cases hn : n.tmod (pw k) < 0
  · rw [if_pos hn] at hf
    rw [← hf]; clear hf
    go_enter Try.func77, Try.ntmps77
    go_wp2
    go_ret
    exact ⟨rfl, rfl⟩
  · rw [if_neg hn] at hf
    rw [← hf]; clear hf
    go_enter Try.func77, Try.ntmps77
    go_wp2
    go_ret
    exact ⟨rfl, rfl⟩
theorem l1Bit_any (x k : Int) (w : World) (hx : 0 ≤ x) (h0 : 0 ≤ k) (h1 : k ≤ 40) :
    Calls Try.prog 89 #[.int .i64 x, .int .i64 k] w fun e w' => e = .returned (.int .i64 (bt x k)) ∧ w = w' := by
  have hd : 0 ≤ x / 2 ^ k.toNat := div_nonneg hx
  go_enter Try.func89, Try.ntmps89
  go_wp2
  go_ret
  exact ⟨rfl, rfl⟩
theorem signed_any (k x : Int) (w : World) (h : vX k x = true) :
    Calls Try.prog 88 #[.int .i64 k, .int .i64 x] w fun e w' => e = .returned (.int .i64 (sg k x)) ∧ w = w' := by
  obtain ⟨h1, h2, h3, h4⟩ := vX_iff.mp h
  rw [← sg_bt h1 h3 h4]
  have hb := bt_01 x (k - 1)
  have h12 := pw_le12 h2
  have hp := pw_pos k
  have hm : 0 ≤ bt x (k - 1) * pw k ∧ bt x (k - 1) * pw k ≤ 4096 := by
    rcases (show bt x (k - 1) = 0 ∨ bt x (k - 1) = 1 by omega) with e | e <;> rw [e] <;> omega
  go_enter Try.func88, Try.ntmps88
  go_wp2_with (first | (go_at_call 93; refine (bit_any _ _ _ (by omega) (by omega)).mono ?_; rintro e w' ⟨rfl, rfl⟩) | (go_at_call 94; refine (power_any _ _ (by omega) (by omega)).mono ?_; rintro e w' ⟨rfl, rfl⟩))
  go_ret
  exact ⟨rfl, rfl⟩
theorem both_any (k a b : Int) (w : World) :
    Calls Try.prog 84 #[.int .i64 k, .int .i64 a, .int .i64 b] w fun e w' => e = .returned (.bool (v2 k a b)) ∧ w = w' := by
  by_cases h : vX k a = true
  · have e : v2 k a b = vX k b := by unfold v2; rw [h]; rfl
    rw [e]; clear e
    go_enter Try.func84, Try.ntmps84
    go_wp2_with (go_at_call 34; refine (validS_any _ _ _).mono ?_; rintro e w' ⟨rfl, rfl⟩)
    go_ret
    exact ⟨rfl, rfl⟩
  · have h : vX k a = false := by simpa using h
    have e : v2 k a b = false := by unfold v2; rw [h]; rfl
    rw [e]; clear e
    go_enter Try.func84, Try.ntmps84
    go_wp2_with (go_at_call 34; refine (validS_any _ _ _).mono ?_; rintro e w' ⟨rfl, rfl⟩)
    go_ret
    exact ⟨rfl, rfl⟩
theorem allValid_any (k : Int) (l : List Int) (b off cap : Nat) (w : World) (hlen : l.length ≤ 9223372036854775807)
    (hc : ∀ j, j < l.length → w.cell? ⟨b, off + j, none⟩ = some (.int .i64 (l.getD j 0))) :
    Calls Try.prog 60 #[.int .i64 k, .slice (some ⟨b, off, none⟩) l.length cap] w fun e w' => e = .returned (.bool (vW k && allX k l)) ∧ w = w' := by
  have HC := Lib.hid hc
  clear hc
  go_enter Try.func60, Try.ntmps60
  go_wp2
  go_loop [9] (fun i => ∃ n : Nat, n ≤ l.length ∧ i = .int .i64 n ∧ allX k (l.take n) = true) (fun i => l.length - (intOf i).toNat)
  case atStart => exact ⟨0, Nat.zero_le _, rfl, rfl⟩
  case round =>
    obtain ⟨n, hn, rfl, hall⟩ := hrel
    have HA := Lib.hid hall
    clear hall
    by_cases hlt : n < l.length
    · have hcell := HC.out n hlt
      obtain ⟨x, hx⟩ : ∃ x, l.getD n 0 = x := ⟨_, rfl⟩
      rw [hx] at hcell
      have HX := Lib.hid hx
      clear hx
      by_cases hv : vX k x = true
      · go_wp2_with (go_at_call 33; refine (validI_any _ _ _).mono ?_; rintro e w' ⟨rfl, rfl⟩)
        go_round
        case rel => exact ⟨n + 1, by omega, by go_num, by rw [allX_take_succ k l n hlt, HA.out, HX.out, hv]; rfl⟩
        case measure => simp [intOf]; omega
      · have hv : vX k x = false := by simpa using hv
        have e : (vW k && allX k l) = false := by rw [allX_no k l n hlt (by rw [HX.out]; exact hv)]; simp
        have E := Lib.hid e
        clear e
        go_wp2_with (go_at_call 33; refine (validI_any _ _ _).mono ?_; rintro e w' ⟨rfl, rfl⟩)
        go_ret
        exact ⟨ret_bool E.out.symm, rfl⟩
    · have e : (vW k && allX k l) = vW k := by
        have := HA.out
        rw [List.take_of_length_le (by omega)] at this
        rw [this]; simp
      have E := Lib.hid e
      clear e
      go_wp2_with (go_at_call 74; refine (isWidth_any _ _).mono ?_; rintro e w' ⟨rfl, rfl⟩)
      go_ret
      exact ⟨ret_bool E.out.symm, rfl⟩
theorem allValid2_any (k a b : Int) (w : World) (B : Nat) (hB : w.heap.size = B) :
    Calls Try.prog 60 #[.int .i64 k, .slice (some ⟨B, 0, none⟩) 2 2] (w.alloc (.cells #[.int .i64 a, .int .i64 b] 3)) fun e w' => e = .returned (.bool (v2 k a b)) ∧ w.alloc (.cells #[.int .i64 a, .int .i64 b] 3) = w' := by
  subst hB
  have := allValid_any k [a, b] w.heap.size 0 2 (w.alloc (.cells #[.int .i64 a, .int .i64 b] 3)) (by simp) (fun j hj => by
    match j, hj with
    | 0, _ => simp
    | 1, _ => simp)
  refine this.mono fun e w' h => ⟨h.1.trans (ret_bool ?_), h.2⟩
  unfold v2 allX
  by_cases hw : vW k = true
  · simp [hw]
  · have hw : vW k = false := by simpa using hw
    simp [hw, vX_no hw]
theorem allValid3_any (k a b c : Int) (w : World) (B : Nat) (hB : w.heap.size = B) :
    Calls Try.prog 60 #[.int .i64 k, .slice (some ⟨B, 0, none⟩) 3 3] (w.alloc (.cells #[.int .i64 a, .int .i64 b, .int .i64 c] 3)) fun e w' => e = .returned (.bool (v2 k a b && vX k c)) ∧ w.alloc (.cells #[.int .i64 a, .int .i64 b, .int .i64 c] 3) = w' := by
  subst hB
  have := allValid_any k [a, b, c] w.heap.size 0 3 (w.alloc (.cells #[.int .i64 a, .int .i64 b, .int .i64 c] 3)) (by simp) (fun j hj => by
    match j, hj with
    | 0, _ => simp
    | 1, _ => simp
    | 2, _ => simp)
  refine this.mono fun e w' h => ⟨h.1.trans (ret_bool ?_), h.2⟩
  unfold v2 allX
  by_cases hw : vW k = true
  · simp [hw, Bool.and_assoc]
  · have hw : vW k = false := by simpa using hw
    simp [hw, vX_no hw]
theorem same_of {P : Program} {f : FuncId} {args : Array Value} {w : World} {v : Value}
    (h : Calls P f args w fun e w' => e = .returned v ∧ w = w') : Calls P f args w fun e w' => e = .returned v ∧ w' = w := h.mono fun _ _ ⟨he, h⟩ => ⟨he, h.symm⟩
/-- A quiet contract inside a region that draws its order: the first such region, and a later one. -/
theorem quiet_1 {P : Program} {f : FuncId} {args : Array Value} {W : World} {v : Value} {n : Nat}
    (h : Calls P f args (W.drewN n) fun e w' => e = .returned v ∧ W.drewN n = w') : Calls P f args (W.drewN n) fun e w' => e = .returned v ∧ ∃ m, w' = W.drewN m :=
  h.mono fun _ _ ⟨he, hw⟩ => ⟨he, n, hw.symm⟩
theorem quiet_2 {P : Program} {f : FuncId} {args : Array Value} {W : World} {v : Value} {c n : Nat}
    (h : Calls P f args (W.drewN (c + n)) fun e w' => e = .returned v ∧ W.drewN (c + n) = w') : Calls P f args (W.drewN (c + n)) fun e w' => e = .returned v ∧ ∃ m, w' = W.drewN (c + m) :=
  h.mono fun _ _ ⟨he, hw⟩ => ⟨he, n, hw.symm⟩
/-- A contract over a world that lies behind other calls: what was below stays. -/
theorem over {P : Program} {f : FuncId} {args : Array Value} {W w : World} {v : Value} (hb : Below W.heap.size W w)
    (h : Calls P f args w fun e w' => e = .returned v ∧ Below w.heap.size w w') : Calls P f args w fun e w' => e = .returned v ∧ Below W.heap.size W w' :=
  h.mono fun _ _ ⟨he, h⟩ => ⟨he, hb.trans (h.mono hb.size)⟩
end Go.Proofs.Yteoalkgpdgoaeaa
