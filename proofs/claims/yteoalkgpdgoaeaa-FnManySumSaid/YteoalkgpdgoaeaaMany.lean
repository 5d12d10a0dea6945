/-
  THE WALKS OF ManySum, the program's and the reference's. Conditions: the list can be read, and is not longer than 2^20.
-/
import Derived.Test.YteoalkgpdgoaeaaWin
import Derived.Test.YteoalkgpdgoaeaaAdd
import Derived.Test.YteoalkgpdgoaeaaSum
namespace Go.Proofs.Yteoalkgpdgoaeaa
open Go Go.RowKit Bw
set_option linter.unusedVariables false
/-! ### plain -/
theorem many_ok {k : Int} {l : List Int} (hk : vW k = true) (ha : allX k l = true) (hl : l.length ≤ 20) : manySum k l = isum l % pw k := by
  unfold manySum; rw [hk, ha, decide_eq_true hl]; rfl
theorem many_width {k : Int} {l : List Int} (hk : vW k = false) : manySum k l = -1 := by unfold manySum; rw [hk]; rfl
theorem many_long {k : Int} {l : List Int} (hl : 20 < l.length) : manySum k l = -1 := by
  unfold manySum; rw [show decide (l.length ≤ 20) = false from decide_eq_false (by omega)]; simp
theorem many_bad {k : Int} {l : List Int} (ha : allX k l = false) : manySum k l = -1 := by unfold manySum; rw [ha]; simp
theorem allX_get {k : Int} {l : List Int} (ha : allX k l = true) (n : Nat) (h : n < l.length) : vX k (l.getD n 0) = true := by
  by_cases hv : vX k (l.getD n 0) = true
  · exact hv
  · have hv : vX k (l.getD n 0) = false := by simpa using hv
    rw [allX_no k l n h hv] at ha; cases ha
theorem isum_take {l : List Int} (n : Nat) (h : n < l.length) : isum (l.take (n + 1)) = isum (l.take n) + l.getD n 0 := by
  rw [List.take_add_one, isum_append]
  simp [List.getD, h, isum]
theorem isum_step {k : Int} {l : List Int} (hk : vW k = true) (ha : allX k l = true) (n : Nat) (h : n < l.length) : wadd k (isum (l.take n) % pw k) (l.getD n 0) = isum (l.take (n + 1)) % pw k := by
  rw [wadd_eq (v2_mk (vX_mod hk _) (allX_get ha n h)), Int.emod_add_emod, isum_take n h]
theorem three_ok {k x y z : Int} {r : List Int} (ha : allX k (x :: y :: z :: r) = true) : three1 k x y z = t3x x y z ∧ three2 k x y z = t3y k x y z := by
  simp only [allX, List.all_cons, Bool.and_eq_true] at ha
  obtain ⟨hx, hy, hz, _⟩ := ha
  have h : v3 k x y z = true := v3_iff.mpr ⟨hx, hy, hz⟩
  unfold three1 three2; rw [if_pos h, if_pos h]; exact ⟨rfl, rfl⟩
/-- What stays from round to round. -/
def Fold (k : Int) (l m : List Int) : Prop := m.length ≤ 20 ∧ allX k m = true ∧ isum m % pw k = isum l % pw k
theorem Fold.next {k x y z : Int} {l r : List Int} (h : Fold k l (x :: y :: z :: r)) : Fold k l (r ++ [three1 k x y z, three2 k x y z]) := by
  obtain ⟨h1, h2, h3⟩ := h
  obtain ⟨e1, e2⟩ := three_ok h2
  rw [e1, e2]
  have := many_step h2
  refine ⟨by simp at h1 ⊢; omega, this.1, this.2.trans h3⟩
def lenV : Value → Nat
  | .slice _ n _ => n
  | _ => 0
theorem rd_two (w : World) (x y : Int) : Rd (w.alloc (.cells #[.int .i64 x, .int .i64 y] 3)) (.slice (some ⟨w.heap.size, 0, none⟩) 2 2) [x, y] :=
  .inr ⟨w.heap.size, 2, rfl, by simp, fun j hj => by
    match j, hj with
    | 0, _ => simp
    | 1, _ => simp⟩
theorem take3 {m : List Int} (h : 2 < m.length) : ∃ x y z r, m = x :: y :: z :: r := by
  match m, h with
  | x :: y :: z :: r, _ => exact ⟨x, y, z, r, rfl⟩
/-! ### the program's -/
theorem allValidL_any (k : Int) (v : Value) (l : List Int) (w : World) (hr : Rd w v l) (hlen : l.length ≤ 1048576) :
    Calls Try.prog 60 #[.int .i64 k, v] w fun e w' => e = .returned (.bool (vW k && allX k l)) ∧ w = w' := by
  rcases hr with ⟨rfl, rfl⟩ | ⟨b, cap, rfl, _, hc⟩
  · have E := Lib.hid (show (vW k && allX k []) = vW k by unfold allX; simp)
    go_enter Try.func60, Try.ntmps60
    go_wp2
    go_loop [9] (fun i => i = .int .i64 0) (fun _ => 0)
    case atStart => rfl
    case round =>
      obtain rfl := hrel
      go_wp2_with (go_at_call 74; refine (isWidth_any _ _).mono ?_; rintro e w' ⟨rfl, rfl⟩)
      go_ret
      exact ⟨ret_bool E.out.symm, rfl⟩
  · exact allValid_any k l b 0 cap w (by omega) (fun j hj => by rw [Nat.zero_add]; exact hc j hj)
/-- What is held beside the three words: all that was there. -/
def Held3 (W w : World) : Prop := Below W.heap.size W w
theorem three_held {k x y z X Y : Int} {V : Bool} {b off : Nat} {W w : World} (hb : b < W.heap.size) (hX : three1 k x y z = X) (hY : three2 k x y z = Y) (hV : v3 k x y z = V)
    (h : w.cell? ⟨b, off, none⟩ = some (.int .i64 x) ∧ w.cell? ⟨b, off + 1, none⟩ = some (.int .i64 y) ∧ w.cell? ⟨b, off + 2, none⟩ = some (.int .i64 z) ∧ Held3 W w) :
    Calls Try.prog 61 #[.int .i64 k, .int .i64 x, .int .i64 y, .int .i64 z] w fun e w' => e = .returned (.tuple #[.int .i64 X, .int .i64 Y, .bool V]) ∧
      (w'.cell? ⟨b, off, none⟩ = some (.int .i64 x) ∧ w'.cell? ⟨b, off + 1, none⟩ = some (.int .i64 y) ∧ w'.cell? ⟨b, off + 2, none⟩ = some (.int .i64 z) ∧ Held3 W w') := by
  subst hX
  subst hY
  subst hV
  obtain ⟨h0, h1, h2, hh⟩ := h
  have hs : W.heap.size ≤ w.heap.size := Below.size hh
  refine (threeI_any k x y z w).mono fun e w' h => ⟨h.1, ?_⟩
  exact ⟨(h.2.cell (p := ⟨b, off, none⟩) (by show b < _; omega)).trans h0, (h.2.cell (p := ⟨b, off + 1, none⟩) (by show b < _; omega)).trans h1, (h.2.cell (p := ⟨b, off + 2, none⟩) (by show b < _; omega)).trans h2, Below.trans hh (h.2.mono hs)⟩
theorem manyI_any (k : Int) (v : Value) (l : List Int) (w : World) (hr : Rd w v l) (hlen : l.length ≤ 1048576) :
    Calls Try.prog 16 #[.int .i64 k, v] w fun e w' => e = .returned (.int .i64 (manySum k l)) ∧ Below w.heap.size w w' := by
  obtain ⟨i0, hi, hz0, hz1, hz2⟩ := info_parts info_int
  obtain ⟨x0, c0, rfl⟩ := hr.slice
  have HR := Lib.hid hr
  clear hr
  by_cases h : (vW k && allX k l) = true
  · by_cases h20 : (20 : Int) < (l.length : Int)
    · have E := Lib.hid (many_long (k := k) (l := l) (by omega))
      go_enter Try.func16, Try.ntmps16
      go_wp2_with ((go_at_call 60; refine (allValidL_any _ _ l _ HR.out (by omega)).mono ?_; rintro e w' ⟨rfl, rfl⟩))
      go_ret
      exact ⟨ret_int E.out.symm, Below.refl _ _⟩
    · have hd1 : decide ((20 : Int) < (l.length : Int)) = false := decide_eq_false h20
      have hd2 : decide (20 < l.length) = false := decide_eq_false (by omega)
      have HV : Hid (vW k = true ∧ allX k l = true) := Lib.hid (by simpa using h)
      have hl20 : l.length ≤ 20 := by omega
      go_enter Try.func16, Try.ntmps16
      go_wp2_with (first | (go_at_call 60; refine (allValidL_any _ _ l _ HR.out (by omega)).mono ?_; rintro e w' ⟨rfl, rfl⟩) | (at_builtin; refine wpList_append_win _ rfl _ _ 23 23 rfl w.heap.size 3 i0 (.int .i64 0) 8 Try.underlying23 hi hz0 hz1 hz2 rfl rfl (Win.empty w w.heap.size none) (Nat.le_refl _) _ l rfl (rd_src Try.underlying23 HR.out) (by simp [maxLen]; omega) (by simp; omega) ?_; intro v1 w1 hw1 hb1))
      rw [List.nil_append] at hw1
      have HW1 := Lib.hid hw1
      clear hw1
      go_wp2
      go_loopw [5] (fun v wr => ∃ m : List Int, Win wr w.heap.size v m ∧ Fold k l m ∧ Below w.heap.size w wr) (fun v _ => lenV v)
      case atStart => exact ⟨l, HW1.out, ⟨hl20, HV.out.2, rfl⟩, hb1⟩
      case round =>
        obtain ⟨W1, rfl⟩ : ∃ W1, W1 = wr := ⟨_, rfl⟩
        obtain ⟨m, hw, hf, hb⟩ := hrel
        by_cases hlt : 2 < m.length
        · obtain ⟨x, y, z, r, rfl⟩ := take3 hlt
          have HF := Lib.hid hf.next
          obtain ⟨b, off, cap, rfl, hbl, hcap, q0, q1, q2, W3, Wn⟩ := hw.three
          obtain ⟨N, hN⟩ : ∃ N, N = r.length + 3 := ⟨_, rfl⟩
          rw [← hN] at hcap ⊢
          have HN := Lib.hid hN
          have H3 := Lib.hid W3
          have H4 := Lib.hid Wn
          clear hw hf W3 Wn hN hlt
          have n3 : 3 ≤ N := HN.out ▸ Nat.le_add_left _ _
          have m0 : (0 : Int) < (N : Int) := by omega
          have m00 : 0 < N := by omega
          have m1 : (1 : Int) < (N : Int) := by omega
          have m2 : (2 : Int) < (N : Int) := by omega
          have m3 : (3 : Int) ≤ (N : Int) := by omega
          obtain ⟨X, hX⟩ : ∃ X, three1 k x y z = X := ⟨_, rfl⟩
          obtain ⟨Y, hY⟩ : ∃ Y, three2 k x y z = Y := ⟨_, rfl⟩
          obtain ⟨V, hV⟩ : ∃ V, v3 k x y z = V := ⟨_, rfl⟩
          have HT := Lib.hid (fun w2 => three_held (off := off) (w := w2) hbl hX hY hV)
          rw [hX, hY] at HF
          have S0 : W1.drew.cell? ⟨b, off, none⟩ = some (.int .i64 x) ∧ W1.drew.cell? ⟨b, off + 1, none⟩ = some (.int .i64 y) ∧ W1.drew.cell? ⟨b, off + 2, none⟩ = some (.int .i64 z) ∧ Held3 W1 W1.drew := ⟨q0, q1, q2, (Below.refl _ _).drew⟩
          clear hX hY hV
          go_wp2
          go_region_held3 (fun w' => w'.cell? ⟨b, off, none⟩ = some (.int .i64 x) ∧ w'.cell? ⟨b, off + 1, none⟩ = some (.int .i64 y) ∧ w'.cell? ⟨b, off + 2, none⟩ = some (.int .i64 z) ∧ Held3 W1 w') (first | assumption | exact S0) (first | (go_at_call 61; refine (HT.out _ (by assumption)).mono ?_; rintro e w5 ⟨rfl, hS5⟩))
          obtain ⟨-, -, -, h5⟩ := hS5
          have hb5 : Below W1.heap.size W1 w5 := h5
          clear h5
          have hsz := hb.size
          have hsz5 := hb5.size
          have HB5 := Lib.hid (hb.trans (hb5.mono hsz))
          have hws : ∃ s0 c3, Win w5 w.heap.size (.slice (some s0) (N - 3) c3) r ∧ (cap = 3 → s0 = ⟨b, off, none⟩ ∧ c3 = 0) ∧ (¬ cap = 3 → s0 = ⟨b, off + 3, none⟩ ∧ c3 = cap - 3) := by
            have e : N - 3 = r.length := by have := HN.out; omega
            rw [e]
            by_cases hc3 : cap = 3
            · exact ⟨_, _, (H3.out hc3).below hb5, fun _ => ⟨rfl, rfl⟩, fun h => absurd hc3 h⟩
            · exact ⟨_, _, (H4.out hc3).below hb5, fun h => absurd h hc3, fun _ => ⟨rfl, rfl⟩⟩
          obtain ⟨s0, c3, hw5, e3, e4⟩ := hws
          have HW5 := Lib.hid (hw5.below (below_new1 w5 (.cells #[.int .i64 X, .int .i64 Y] 3)))
          clear hw5 hb hb5 H3 H4
          by_cases hc3 : cap = 3
          · obtain ⟨rfl, rfl⟩ := e3 hc3
            clear e3 e4
            subst hc3
            obtain rfl : N = 3 := by omega
            go_wp2_with (at_builtin; refine wpList_append_win _ rfl _ _ 23 23 rfl w.heap.size 3 i0 (.int .i64 0) 8 Try.underlying23 hi hz0 hz1 hz2 rfl rfl HW5.out (by simp; omega) _ [X, Y] rfl (rd_src Try.underlying23 (rd_two w5 X Y)) (by have := HF.out.1; simp at this; simp [maxLen]; omega) (by have := HF.out.1; simp at this; simp; omega) ?_; intro v6 w6 hw6 hb6)
            have HL6 := Lib.hid (show lenV v6 = r.length + 2 by obtain ⟨_, _, e⟩ := hw6.slice; rw [e]; simp [lenV])
            have HW6 := Lib.hid hw6
            have HB6 := Lib.hid ((HB5.out.alloc HB5.out.size _).trans hb6)
            clear hw6 hb6
            go_wp2
            go_roundw
            case rel => exact ⟨_, HW6.out, HF.out, HB6.out⟩
            case measure => have h1 := HL6.out; have h2 := HN.out; simp only [lenV] at *; omega
          · obtain ⟨rfl, rfl⟩ := e4 hc3
            clear e3 e4
            go_wp2_with (at_builtin; refine wpList_append_win _ rfl _ _ 23 23 rfl w.heap.size 3 i0 (.int .i64 0) 8 Try.underlying23 hi hz0 hz1 hz2 rfl rfl HW5.out (by simp; omega) _ [X, Y] rfl (rd_src Try.underlying23 (rd_two w5 X Y)) (by have := HF.out.1; simp at this; simp [maxLen]; omega) (by have := HF.out.1; simp at this; simp; omega) ?_; intro v6 w6 hw6 hb6)
            have HL6 := Lib.hid (show lenV v6 = r.length + 2 by obtain ⟨_, _, e⟩ := hw6.slice; rw [e]; simp [lenV])
            have HW6 := Lib.hid hw6
            have HB6 := Lib.hid ((HB5.out.alloc HB5.out.size _).trans hb6)
            clear hw6 hb6
            go_wp2
            go_roundw
            case rel => exact ⟨_, HW6.out, HF.out, HB6.out⟩
            case measure => have h1 := HL6.out; have h2 := HN.out; simp only [lenV] at *; omega
        · obtain ⟨h1, h2, h3⟩ := hf
          have E := Lib.hid ((many_ok HV.out.1 HV.out.2 hl20).trans h3.symm)
          have HS := Lib.hid (fun n hn => isum_step HV.out.1 h2 n hn : ∀ n, n < m.length → _)
          clear h2 h3
          by_cases hm0 : 0 < m.length
          · obtain ⟨b, off, cap, rfl, hbl, _, hcell⟩ := hw.at_ hm0
            have HC := Lib.hid hcell
            clear hw hcell
            go_wp2
            go_loopw [9, 49] (fun s i w2 => ∃ n : Nat, n ≤ m.length ∧ i = .int .i64 n ∧ s = .int .i64 (isum (m.take n) % pw k) ∧ Below W1.heap.size W1 w2) (fun _ i _ => m.length - (intOf i).toNat)
            case atStart => exact ⟨0, Nat.zero_le _, rfl, by simp [isum], Below.refl _ _⟩
            case round =>
              obtain ⟨n, hn, rfl, rfl, hb2⟩ := hrel
              have hsz2 := hb2.size
              by_cases hnm : n < m.length
              · have c1 := (hb2.cell (p := ⟨b, off + n, none⟩) hbl).trans (HC.out n hnm)
                have hst := HS.out n hnm
                obtain ⟨x, hx⟩ : ∃ x, m.getD n 0 = x := ⟨_, rfl⟩
                rw [hx] at c1 hst
                obtain ⟨S, hS⟩ : ∃ S, isum (m.take n) % pw k = S := ⟨_, rfl⟩
                rw [hS] at hst ⊢
                have HST := Lib.hid hst
                clear hx hS hst
                have n0 : (0 : Int) ≤ (n : Int) := by omega
                have n1 : (n : Int) < (m.length : Int) := by omega
                go_wp2_with ((go_at_call 19; refine (over hb2 (waddI_any _ _ _ _)).mono ?_; rintro e w' ⟨rfl, hb3⟩))
                go_roundw
                case rel => exact ⟨n + 1, by omega, by go_num, by rw [HST.out], hb3⟩
                case measure => simp [intOf]; omega
              · obtain rfl : n = m.length := by omega
                have E2 := Lib.hid (show isum (m.take m.length) % pw k = manySum k l by rw [List.take_length, E.out])
                go_wp2
                go_ret
                exact ⟨ret_int E2.out, hb.trans (hb2.mono hb.size)⟩
          · obtain rfl := List.length_eq_zero_iff.mp (show m.length = 0 by omega)
            obtain ⟨ao, cap, rfl⟩ := hw.slice
            clear hw
            go_wp2
            go_loop [9, 49] (fun s i => i = .int .i64 0 ∧ s = .int .i64 0) (fun _ _ => 0)
            case atStart => exact ⟨rfl, rfl⟩
            case round =>
              obtain ⟨rfl, rfl⟩ := hrel
              go_wp2
              go_ret
              exact ⟨ret_int (E.out.trans (by simp [isum])).symm, hb⟩
  · have h : (vW k && allX k l) = false := by simpa using h
    have E := Lib.hid (show manySum k l = -1 by
      rcases (Bool.and_eq_false_iff).mp h with h | h
      · exact many_width h
      · exact many_bad h)
    go_enter Try.func16, Try.ntmps16
    go_wp2_with ((go_at_call 60; refine (allValidL_any _ _ l _ HR.out (by omega)).mono ?_; rintro e w' ⟨rfl, rfl⟩))
    go_ret
    exact ⟨ret_int E.out.symm, Below.refl _ _⟩
/-! ### the reference's -/
theorem manyS_any (k : Int) (v : Value) (l : List Int) (w : World) (hr : Rd w v l) (hlen : l.length ≤ 1048576) :
    Calls Try.prog 17 #[.int .i64 k, v] w fun e w' => e = .returned (.int .i64 (manySum k l)) ∧ Below w.heap.size w w' := by
  obtain ⟨i0, hi, hz0, hz1, hz2⟩ := info_parts info_int
  obtain ⟨x0, c0, rfl⟩ := hr.slice
  have HR := Lib.hid hr
  clear hr
  by_cases hk : vW k = true
  · have hvb : inB k 1 12 = true := hk
    have HK := Lib.hid hk
    clear hk
    by_cases h20 : (20 : Int) < (l.length : Int)
    · have E := Lib.hid (many_long (k := k) (l := l) (by omega))
      go_enter Try.func17, Try.ntmps17
      go_wp2_with ((go_at_call 62; refine (l1In_any _ _ _ _).mono ?_; rintro e w' ⟨rfl, rfl⟩))
      go_ret
      exact ⟨ret_int E.out.symm, Below.refl _ _⟩
    · have hd1 : decide ((20 : Int) < (l.length : Int)) = false := decide_eq_false h20
      have hd2 : decide (20 < l.length) = false := decide_eq_false (by omega)
      have hl20 : l.length ≤ 20 := by omega
      have HR2 := Lib.hid (HR.out.below (below_new1 w (.cells #[] 3)))
      go_enter Try.func17, Try.ntmps17
      go_wp2_with (first | (go_at_call 62; refine (l1In_any _ _ _ _).mono ?_; rintro e w' ⟨rfl, rfl⟩) | (at_builtin; refine wpList_append_win _ rfl _ _ 23 23 rfl w.heap.size 3 i0 (.int .i64 0) 8 Try.underlying23 hi hz0 hz1 hz2 rfl rfl (Win.empty _ w.heap.size _) (by simp) _ l rfl (rd_src Try.underlying23 HR2.out) (by simp [maxLen]; omega) (by simp; omega) ?_; intro v1 w1 hw1 hb1))
      rw [List.nil_append] at hw1
      have HB1 := Lib.hid ((below_new1 w (.cells #[] 3)).trans hb1)
      obtain ⟨x1, c1, rfl⟩ := hw1.slice
      have HW1 := Lib.hid hw1
      clear hw1 hb1
      go_wp2
      go_loop [6] (fun i => ∃ n : Nat, n ≤ l.length ∧ i = .int .i64 n ∧ allX k (l.take n) = true) (fun i => l.length - (intOf i).toNat)
      case atStart => exact ⟨0, Nat.zero_le _, rfl, rfl⟩
      case round =>
        obtain ⟨n, hn, rfl, hall⟩ := hrel
        have HA := Lib.hid hall
        clear hall
        by_cases hlt : n < l.length
        · obtain ⟨b, off, cap, he, hbl, _, hcell⟩ := HW1.out.at_ (by omega)
          obtain ⟨rfl, rfl⟩ : x1 = some ⟨b, off, none⟩ ∧ c1 = cap := by injection he with h1 h2 h3; exact ⟨h1, h3⟩
          have q1 := hcell n hlt
          obtain ⟨x, hx⟩ : ∃ x, l.getD n 0 = x := ⟨_, rfl⟩
          rw [hx] at q1
          have HX := Lib.hid hx
          clear hx he hcell
          have n0 : (0 : Int) ≤ (n : Int) := by omega
          have n1 : (n : Int) < (l.length : Int) := by omega
          by_cases hv : vX k x = true
          · go_wp2_with (go_at_call 34; refine (validS_any _ _ _).mono ?_; rintro e w' ⟨rfl, rfl⟩)
            go_round
            case rel => exact ⟨n + 1, by omega, by go_num, by rw [allX_take_succ k l n hlt, HA.out, HX.out, hv]; rfl⟩
            case measure => simp [intOf]; omega
          · have hv : vX k x = false := by simpa using hv
            have E := Lib.hid (many_bad (k := k) (l := l) (allX_no k l n hlt (by rw [HX.out]; exact hv)))
            go_wp2_with (go_at_call 34; refine (validS_any _ _ _).mono ?_; rintro e w' ⟨rfl, rfl⟩)
            go_ret
            exact ⟨ret_int E.out.symm, HB1.out⟩
        · have HV := Lib.hid (show allX k l = true by have := HA.out; rwa [List.take_of_length_le (by omega)] at this)
          clear HA
          go_wp2
          go_loopw [5] (fun v wr => ∃ m : List Int, Win wr w.heap.size v m ∧ Fold k l m ∧ Below w.heap.size w wr) (fun v _ => lenV v)
          case atStart => exact ⟨l, HW1.out, ⟨hl20, HV.out, rfl⟩, HB1.out⟩
          case round =>
            obtain ⟨W1, rfl⟩ : ∃ W1, W1 = wr := ⟨_, rfl⟩
            obtain ⟨m, hw, hf, hb⟩ := hrel
            by_cases hlt : 2 < m.length
            · obtain ⟨x, y, z, r, rfl⟩ := take3 hlt
              have HF := Lib.hid hf.next
              obtain ⟨b, off, cap, rfl, hbl, hcap, q0, q1, q2, W3, Wn⟩ := hw.three
              obtain ⟨N, hN⟩ : ∃ N, N = r.length + 3 := ⟨_, rfl⟩
              rw [← hN] at hcap ⊢
              have HN := Lib.hid hN
              have H3 := Lib.hid W3
              have H4 := Lib.hid Wn
              clear hw hf W3 Wn hN hlt
              have n3 : 3 ≤ N := HN.out ▸ Nat.le_add_left _ _
              have m0 : (0 : Int) < (N : Int) := by omega
              have m00 : 0 < N := by omega
              have m1 : (1 : Int) < (N : Int) := by omega
              have m2 : (2 : Int) < (N : Int) := by omega
              have m3 : (3 : Int) ≤ (N : Int) := by omega
              go_wp2
              go_quiet ((go_at_call 63; first | exact quiet_1 (threeS_any _ _ _ _ _) | exact quiet_2 (threeS_any _ _ _ _ _)))
              obtain ⟨w5, hw5e⟩ : ∃ w5, W1.drewN nq = w5 := ⟨_, rfl⟩
              have hb5 : Below W1.heap.size W1 w5 := hw5e ▸ below_drewN (Below.refl _ _) _
              rw [hw5e]
              clear hw5e
              have HB5 := Lib.hid (hb.trans (hb5.mono hb.size))
              have hsz5 := HB5.out.size
              have hws : ∃ s0 c3, Win w5 w.heap.size (.slice (some s0) (N - 3) c3) r ∧ (cap = 3 → s0 = ⟨b, off, none⟩ ∧ c3 = 0) ∧ (¬ cap = 3 → s0 = ⟨b, off + 3, none⟩ ∧ c3 = cap - 3) := by
                have e : N - 3 = r.length := by have := HN.out; omega
                rw [e]
                by_cases hc3 : cap = 3
                · exact ⟨_, _, (H3.out hc3).below hb5, fun _ => ⟨rfl, rfl⟩, fun h => absurd hc3 h⟩
                · exact ⟨_, _, (H4.out hc3).below hb5, fun h => absurd h hc3, fun _ => ⟨rfl, rfl⟩⟩
              obtain ⟨s0, c3, hw5, e3, e4⟩ := hws
              have HW5 := Lib.hid (hw5.below (below_new1 w5 (.cells #[] 3)))
              clear hw5 hb hb5 H3 H4
              by_cases hc3 : cap = 3
              · obtain ⟨rfl, rfl⟩ := e3 hc3
                clear e3 e4
                subst hc3
                obtain rfl : N = 3 := by omega
                go_wp2_with (first | (at_builtin; refine wpList_append_win _ rfl _ _ 23 23 rfl w.heap.size 3 i0 (.int .i64 0) 8 Try.underlying23 hi hz0 hz1 hz2 rfl rfl (Win.empty _ w.heap.size _) (by simp; omega) _ r rfl (win_src Try.underlying23 HW5.out) (by have := HF.out.1; simp at this; simp [maxLen]; omega) (by have := HF.out.1; simp at this; simp; omega) ?_; intro v6 w6 hw6 hb6) | (at_builtin; refine wpList_append_win _ rfl _ _ 23 23 rfl w.heap.size 3 i0 (.int .i64 0) 8 Try.underlying23 hi hz0 hz1 hz2 rfl rfl (hw6.below (below_new1 w6 (.cells #[.int .i64 (three1 k x y z), .int .i64 (three2 k x y z)] 3))) (by have := hb6.size; simp at this ⊢; omega) _ [three1 k x y z, three2 k x y z] rfl (rd_src Try.underlying23 (rd_two w6 _ _)) (by have := HF.out.1; simp at this; simp [maxLen]; omega) (by have := HF.out.1; simp at this; simp; omega) ?_; intro v7 w7 hw7 hb7))
                rw [List.nil_append] at hw7
                have HL7 := Lib.hid (show lenV v7 = r.length + 2 by obtain ⟨_, _, e⟩ := hw7.slice; rw [e]; simp [lenV])
                have HW7 := Lib.hid hw7
                have HB6 := Lib.hid ((HB5.out.alloc HB5.out.size _).trans hb6)
                have HB7 := Lib.hid ((HB6.out.alloc HB6.out.size _).trans hb7)
                clear hw7 hb7 hw6 hb6
                go_wp2
                go_roundw
                case rel => exact ⟨_, HW7.out, HF.out, HB7.out⟩
                case measure => have h1 := HL7.out; have h2 := HN.out; simp only [lenV] at *; omega
              · obtain ⟨rfl, rfl⟩ := e4 hc3
                clear e3 e4
                go_wp2_with (first | (at_builtin; refine wpList_append_win _ rfl _ _ 23 23 rfl w.heap.size 3 i0 (.int .i64 0) 8 Try.underlying23 hi hz0 hz1 hz2 rfl rfl (Win.empty _ w.heap.size _) (by simp; omega) _ r rfl (win_src Try.underlying23 HW5.out) (by have := HF.out.1; simp at this; simp [maxLen]; omega) (by have := HF.out.1; simp at this; simp; omega) ?_; intro v6 w6 hw6 hb6) | (at_builtin; refine wpList_append_win _ rfl _ _ 23 23 rfl w.heap.size 3 i0 (.int .i64 0) 8 Try.underlying23 hi hz0 hz1 hz2 rfl rfl (hw6.below (below_new1 w6 (.cells #[.int .i64 (three1 k x y z), .int .i64 (three2 k x y z)] 3))) (by have := hb6.size; simp at this ⊢; omega) _ [three1 k x y z, three2 k x y z] rfl (rd_src Try.underlying23 (rd_two w6 _ _)) (by have := HF.out.1; simp at this; simp [maxLen]; omega) (by have := HF.out.1; simp at this; simp; omega) ?_; intro v7 w7 hw7 hb7))
                rw [List.nil_append] at hw7
                have HL7 := Lib.hid (show lenV v7 = r.length + 2 by obtain ⟨_, _, e⟩ := hw7.slice; rw [e]; simp [lenV])
                have HW7 := Lib.hid hw7
                have HB6 := Lib.hid ((HB5.out.alloc HB5.out.size _).trans hb6)
                have HB7 := Lib.hid ((HB6.out.alloc HB6.out.size _).trans hb7)
                clear hw7 hb7 hw6 hb6
                go_wp2
                go_roundw
                case rel => exact ⟨_, HW7.out, HF.out, HB7.out⟩
                case measure => have h1 := HL7.out; have h2 := HN.out; simp only [lenV] at *; omega
            · obtain ⟨h1, h2, h3⟩ := hf
              have E := Lib.hid ((many_ok HK.out HV.out hl20).trans h3.symm)
              have HS := Lib.hid (fun n hn => isum_step HK.out h2 n hn : ∀ n, n < m.length → _)
              clear h2 h3
              by_cases hm0 : 0 < m.length
              · obtain ⟨b, off, cap, rfl, hbl, _, hcell⟩ := hw.at_ hm0
                have HC := Lib.hid hcell
                clear hw hcell
                go_wp2
                go_loop [10, 11] (fun s i => ∃ n : Nat, n ≤ m.length ∧ i = .int .i64 n ∧ s = .int .i64 (isum (m.take n) % pw k)) (fun _ i => m.length - (intOf i).toNat)
                case atStart => exact ⟨0, Nat.zero_le _, rfl, by simp [isum]⟩
                case round =>
                  obtain ⟨n, hn, rfl, rfl⟩ := hrel
                  by_cases hnm : n < m.length
                  · have c1 := HC.out n hnm
                    have hst := HS.out n hnm
                    obtain ⟨x, hx⟩ : ∃ x, m.getD n 0 = x := ⟨_, rfl⟩
                    rw [hx] at c1 hst
                    obtain ⟨S, hS⟩ : ∃ S, isum (m.take n) % pw k = S := ⟨_, rfl⟩
                    rw [hS] at hst ⊢
                    have HST := Lib.hid hst
                    clear hx hS hst
                    have n0 : (0 : Int) ≤ (n : Int) := by omega
                    have n1 : (n : Int) < (m.length : Int) := by omega
                    go_wp2_with ((go_at_call 55; refine (waddS_any _ _ _ _).mono ?_; rintro e w' ⟨rfl, rfl⟩))
                    go_round
                    case rel => exact ⟨n + 1, by omega, by go_num, by rw [HST.out]⟩
                    case measure => simp [intOf]; omega
                  · obtain rfl : n = m.length := by omega
                    have E2 := Lib.hid E.out.symm
                    rw [List.take_length]
                    go_wp2
                    go_ret
                    exact ⟨ret_int E2.out, hb⟩
              · obtain rfl := List.length_eq_zero_iff.mp (show m.length = 0 by omega)
                obtain ⟨ao, cap, rfl⟩ := hw.slice
                clear hw
                go_wp2
                go_loop [10, 11] (fun s i => i = .int .i64 0 ∧ s = .int .i64 0) (fun _ _ => 0)
                case atStart => exact ⟨rfl, rfl⟩
                case round =>
                  obtain ⟨rfl, rfl⟩ := hrel
                  go_wp2
                  go_ret
                  exact ⟨ret_int (E.out.trans (by simp [isum])).symm, hb⟩
  · have hk : vW k = false := by simpa using hk
    have hvb : inB k 1 12 = false := hk
    have E := Lib.hid (many_width (l := l) hk)
    clear hk
    go_enter Try.func17, Try.ntmps17
    go_wp2_with ((go_at_call 62; refine (l1In_any _ _ _ _).mono ?_; rintro e w' ⟨rfl, rfl⟩))
    go_ret
    exact ⟨ret_int E.out.symm, Below.refl _ _⟩
end Go.Proofs.Yteoalkgpdgoaeaa
