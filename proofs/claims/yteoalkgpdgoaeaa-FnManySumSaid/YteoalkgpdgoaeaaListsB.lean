/-
  THE WALKS OF THE FUNCTIONS THAT MAKE LISTS, the program's and the reference's: each hands back a new list, told by one plain function; no condition.
-/
import Derived.Test.YteoalkgpdgoaeaaLists
import Derived.Test.YteoalkgpdgoaeaaWalksD
import Derived.Deep.RegionLaw
import Derived.Deep.AppendLies
namespace Go.Proofs.Yteoalkgpdgoaeaa
open Go Go.RowKit Bw
set_option linter.unusedVariables false
theorem lret {l : List Int} {w w' : World} {v : Value} (h : Own w' w.heap.size v l) (hb : Below w.heap.size w w') : LRet l w (.returned v) w' := ⟨v, rfl, h, hb⟩
theorem lret_nil {l : List Int} {w w' : World} (hl : l = []) (hb : Below w.heap.size w w') : LRet l w (.returned (.slice none 0 0)) w' := ⟨_, rfl, hl ▸ Own.nil _ _, hb⟩
theorem lret_eq {l m : List Int} {w : World} {e : Ending} {w' : World} (h : LRet l w e w') (hm : l = m) : LRet m w e w' := hm ▸ h
/-- A list that a callee has made, handed on by a caller that had made blocks of its own. -/
theorem LRet.up {l : List Int} {w w1 : World} {v : Value} {w' : World} (h : Own w' w1.heap.size v l) (hb : Below w1.heap.size w1 w') (h0 : Below w.heap.size w w1) : LRet l w (.returned v) w' :=
  ⟨v, rfl, h.base h0.size, h0.trans (hb.mono h0.size)⟩
/-- A list told place by place. -/
def tab (f : Nat → Int) (n : Nat) : List Int := (List.range n).map f
theorem tab_succ (f : Nat → Int) (n : Nat) : tab f (n + 1) = tab f n ++ [f n] := range_succ_map f n
theorem tab_len (f : Nat → Int) (n : Nat) : (tab f n).length = n := by simp [tab]
theorem tab_push {w : World} {B : Nat} {v : Value} {f : Nat → Int} {n : Nat} {x : Int} (h : Own w B v (tab f n ++ [x])) (e : f n = x) : Own w B v (tab f (n + 1)) := by rw [tab_succ, e]; exact h
theorem tab_get (f : Nat → Int) (n j : Nat) (h : j < n) : (tab f n).getD j 0 = f j := by simp [tab, List.getD, h]
theorem undrew {w w1 : World} {r : Option Nat} (h : w.drew.grownBy w1 r) : w.grownBy w1 r := ⟨h.os, h.tape, h.output, h.size, h.block⟩
theorem cell_new (w : World) (x : Value) : (w.alloc (.cells #[x] 3)).cell? ⟨w.heap.size, 0, none⟩ = some x := by simp
def vbit (c : Int) : Bool := inB c 0 1
theorem vbit_iff {c : Int} : vbit c = true ↔ c = 0 ∨ c = 1 := by unfold vbit; rw [inB_iff]; omega
def kindsF (k a b : Int) : List Int := if v2 k a b then kindsL k a b else []
def carriesF (k a b c : Int) : List Int := if v2 k a b && vbit c then carriesL k a b c else []
theorem kindsF_len (k a b : Int) : (kindsF k a b).length ≤ 20 := by
  unfold kindsF; split
  · rename_i h; have := v2_bd h; rw [kindsL_len]; omega
  · simp
theorem carriesF_len (k a b c : Int) : (carriesF k a b c).length ≤ 20 := by
  unfold carriesF; split
  · rename_i h; simp only [Bool.and_eq_true] at h; have := v2_bd h.1; rw [carriesL_len]; omega
  · simp
theorem movedL_len (k a b : Int) : (movedL k a b).length ≤ 20 := by
  unfold movedL; split
  · rename_i h; have := v2_bd h; simp; omega
  · simp
theorem boothL_len (k x : Int) : (boothL k x).length ≤ 20 := by
  unfold boothL; split
  · rename_i h; have := vX_bd h; simp; omega
  · simp
theorem stepsL_len (k a b : Int) : (stepsL k a b).length ≤ 20 := by
  unfold stepsL; split
  · rename_i h; have := v2_bd (vD_iff.mp h).1; simp; omega
  · simp

theorem kinds_any (k a b : Int) (w : World) (h0 : 0 ≤ k) (h1 : k ≤ 12) :
    Calls Try.prog 67 #[.int .i64 k, .int .i64 a, .int .i64 b] w fun e w' => LRet (kindsL k a b) w e w' := by
  obtain ⟨i0, hi, hz0, hz1, hz2⟩ := info_parts info_int
  go_enter Try.func67, Try.ntmps67
  go_wp2
  go_loopw [7, 10] (fun v i wr => ∃ n : Nat, n ≤ k.toNat ∧ i = .int .i64 n ∧ Own wr w.heap.size v (tab (kind a b) n) ∧ Below w.heap.size w wr) (fun _ i _ => k.toNat - (intOf i).toNat)
  case atStart => exact ⟨0, Nat.zero_le _, rfl, Own.nil _ _, Below.refl _ _⟩
  case round =>
    obtain ⟨n, hn, rfl, hown, hnx⟩ := hrel
    have hB := hnx.size
    by_cases hlt : n < k.toNat
    · have n0 : (0 : Int) ≤ (n : Int) := by omega
      have n1 : (n : Int) < k := by omega
      have b1 := bt_01 a n
      have b2 := bt_01 b n
      go_wp2_with (first | (at_builtin; refine wpList_append_own _ rfl _ _ 23 rfl (w.heap.size) 3 i0 (.int .i64 0) 1 8 Try.underlying23 hi hz0 hz1 hz2 rfl (by decide) _ _ _ rfl (World.ownsRow.alloc hown _) ⟨wr.heap.size, 0, none⟩ 1 1 [.int .i64 (bt a n + bt b n)] rfl rfl ?c1 ?c2 ?c3 ?c4 ?c5 ?_) | (go_at_call 93; refine (bit_any _ _ _ (by omega) (by omega)).mono ?_; rintro e w' ⟨rfl, rfl⟩))
      case c1 =>
        intro j u hj
        match j, hj with
        | 0, hj => simp at hj; subst hj; first | (simp [Addr.add]; done) | exact cell_new _ _
      case c2 => intro u hu; simp at hu; subst hu; rfl
      case c3 => unfold maxLen; simp only [tab_len]; omega
      case c4 => simp only [tab_len]; omega
      case c5 => have := hnx.size; simp; omega
      intro v' w1 hown' hgrow _
      have R := push_rel hnx hB hown hown' hgrow
      have HR := Lib.hid R
      clear R hown' hgrow hown hnx
      go_wp2
      go_roundw
      case rel => exact ⟨n + 1, by omega, by go_num, tab_push HR.out.1 rfl, HR.out.2⟩
      case measure => simp [intOf]; omega
    · obtain rfl : n = k.toNat := by omega
      have n1 : ¬ ((k.toNat : Nat) : Int) < k := by omega
      have HO := Lib.hid hown
      clear hown
      go_wp2
      go_ret
      exact lret HO.out hnx
theorem isBit_any (c : Int) (w : World) :
    Calls Try.prog 70 #[.int .i64 c] w fun e w' => e = .returned (.bool (vbit c)) ∧ w = w' := by
  by_cases h0 : c = 0
  · subst h0
    have E := Lib.hid (show vbit 0 = true by rfl)
    go_enter Try.func70, Try.ntmps70
    go_wp2
    go_ret
    exact ⟨ret_bool E.out.symm, rfl⟩
  · have hb : (c == 0) = false := by simpa using h0
    by_cases h1 : c = 1
    · subst h1
      have E := Lib.hid (show vbit 1 = true by rfl)
      go_enter Try.func70, Try.ntmps70
      go_wp2
      go_ret
      exact ⟨ret_bool E.out.symm, rfl⟩
    · have hb1 : (c == 1) = false := by simpa using h1
      have E := Lib.hid (show vbit c = false by rw [← Bool.not_eq_true, vbit_iff]; omega)
      go_enter Try.func70, Try.ntmps70
      go_wp2
      go_ret
      exact ⟨ret_bool E.out.symm, rfl⟩
set_option maxRecDepth 20000 in
theorem kindsS_any (k a b : Int) (w : World) :
    Calls Try.prog 68 #[.int .i64 k, .int .i64 a, .int .i64 b] w fun e w' => LRet (kindsF k a b) w e w' := by
  obtain ⟨i0, hi, hz0, hz1, hz2⟩ := info_parts info_int
  by_cases h : v2 k a b = true
  · obtain ⟨h1, h2, h3, h4, h5, h6, h12⟩ := v2_bd h
    have E := Lib.hid (show tab (kind a b) k.toNat = kindsF k a b by unfold kindsF; rw [h]; rfl)
    go_enter Try.func68, Try.ntmps68
    go_wp2
    go_loopw [7, 8] (fun v i wr => ∃ n : Nat, n ≤ k.toNat ∧ i = .int .i64 n ∧ Own wr w.heap.size v (tab (kind a b) n) ∧ Below w.heap.size w wr) (fun _ i _ => k.toNat - (intOf i).toNat)
    case atStart => exact ⟨0, Nat.zero_le _, rfl, Own.made _ _ (Nat.le_refl _), below_new1 _ _⟩
    case round =>
      obtain ⟨n, hn, rfl, hown, hnx⟩ := hrel
      have hB := hnx.size
      by_cases hlt : n < k.toNat
      · have n0 : (0 : Int) ≤ (n : Int) := by omega
        have n1 : (n : Int) < k := by omega
        have b1 := bt_01 a n
        have b2 := bt_01 b n
        go_wp2_with (first | (at_builtin; refine wpList_append_own _ rfl _ _ 23 rfl (w.heap.size) 3 i0 (.int .i64 0) 1 8 Try.underlying23 hi hz0 hz1 hz2 rfl (by decide) _ _ _ rfl (World.ownsRow.alloc hown _) ⟨wr.heap.size, 0, none⟩ 1 1 [.int .i64 (bt a n + bt b n)] rfl rfl ?c1 ?c2 ?c3 ?c4 ?c5 ?_) | (go_at_call 84; refine (both_any _ _ _ _).mono ?_; rintro e w' ⟨rfl, rfl⟩) | (go_at_call 89; refine (l1Bit_any _ _ _ (by omega) (by omega) (by omega)).mono ?_; rintro e w' ⟨rfl, rfl⟩))
        case c1 =>
          intro j u hj
          match j, hj with
          | 0, hj => simp at hj; subst hj; first | (simp [Addr.add]; done) | exact cell_new _ _
        case c2 => intro u hu; simp at hu; subst hu; rfl
        case c3 => unfold maxLen; simp only [tab_len]; omega
        case c4 => simp only [tab_len]; omega
        case c5 => have := hnx.size; simp; omega
        intro v' w1 hown' hgrow _
        have R := push_rel hnx hB hown hown' hgrow
        have HR := Lib.hid R
        clear R hown' hgrow hown hnx
        go_wp2
        go_roundw
        case rel => exact ⟨n + 1, by omega, by go_num, tab_push HR.out.1 rfl, HR.out.2⟩
        case measure => simp [intOf]; omega
      · obtain rfl : n = k.toNat := by omega
        have n1 : ¬ ((k.toNat : Nat) : Int) < k := by omega
        have HO := Lib.hid hown
        clear hown
        go_wp2
        go_ret
        exact lret_eq (lret HO.out hnx) E.out
  · have h : v2 k a b = false := by simpa using h
    have E := Lib.hid (show kindsF k a b = [] by unfold kindsF; rw [h]; rfl)
    go_enter Try.func68, Try.ntmps68
    go_wp2
    go_loop [7, 8] (fun v i => v = .slice (some ⟨w.heap.size, 0, none⟩) 0 0 ∧ i = .int .i64 0) (fun _ _ => 0)
    case atStart => exact ⟨rfl, rfl⟩
    case round =>
      obtain ⟨rfl, rfl⟩ := hrel
      by_cases hz : (0 : Int) < k
      · go_wp2_with ((go_at_call 84; refine (both_any _ _ _ _).mono ?_; rintro e w' ⟨rfl, rfl⟩))
        go_ret
        exact lret (E.out ▸ Own.made _ _ (Nat.le_refl _)) (below_new1 _ _)
      · go_wp2_with ((go_at_call 84; refine (both_any _ _ _ _).mono ?_; rintro e w' ⟨rfl, rfl⟩))
        go_ret
        exact lret (E.out ▸ Own.made _ _ (Nat.le_refl _)) (below_new1 _ _)
theorem own_cell {w : World} {B : Nat} {v : Value} {l : List Int} (h : Own w B v l) (hne : l ≠ []) :
    ∃ g cap, v = .slice (some ⟨g, 0, none⟩) l.length cap ∧ B ≤ g ∧ ∀ j, j < l.length → w.cell? ⟨g, j, none⟩ = some (.int .i64 (l.getD j 0)) := by
  rcases h.form with ⟨_, hl⟩ | ⟨g, cap, rfl, hg, _⟩
  · exact absurd hl hne
  · exact ⟨g, cap, rfl, hg, fun j hj => by rw [World.ownsRow.cellAt h j (by simpa using hj), map_getD l j hj]⟩
theorem Own.drewN {w : World} {B : Nat} {v : Value} {l : List Int} (h : Own w B v l) (n : Nat) : Own (w.drewN n) B v l := h
theorem tab_ne (f : Nat → Int) (n : Nat) : tab f (n + 1) ≠ [] := by rw [tab_succ]; simp
theorem carries_any (k a b c : Int) (w : World) (h0 : 0 ≤ k) (h1 : k ≤ 12) (hc : 0 ≤ c ∧ c ≤ 1) :
    Calls Try.prog 71 #[.int .i64 k, .int .i64 a, .int .i64 b, .int .i64 c] w fun e w' => LRet (carriesL k a b c) w e w' := by
  obtain ⟨i0, hi, hz0, hz1, hz2⟩ := info_parts info_int
  go_enter Try.func71, Try.ntmps71
  go_wp2
  go_loopw [9, 15] (fun v i wr => ∃ n : Nat, n ≤ k.toNat ∧ i = .int .i64 n ∧ Own wr w.heap.size v (tab (carry a b c) (n + 1)) ∧ Below w.heap.size w wr) (fun _ i _ => k.toNat - (intOf i).toNat)
  case atStart => exact ⟨0, Nat.zero_le _, rfl, Own.one _ _ (Nat.le_refl _) _, below_new1 _ _⟩
  case round =>
    obtain ⟨n, hn, rfl, hown, hnx⟩ := hrel
    have hB := hnx.size
    by_cases hlt : n < k.toNat
    · have n0 : (0 : Int) ≤ (n : Int) := by omega
      have n1 : (n : Int) < k := by omega
      obtain ⟨g, cap, rfl, hg, hcell⟩ := own_cell hown (tab_ne _ _)
      have hcl := hcell n (by rw [tab_len]; omega)
      rw [tab_get _ _ _ (by omega)] at hcl
      clear hcell
      have n2 : (n : Int) < ((tab (carry a b c) (n + 1)).length : Int) := by rw [tab_len]; omega
      have b1 := bt_01 a n
      have b2 := bt_01 b n
      have b3 := carry_bd (a := a) (b := b) hc n
      have kq : kind a b n = bt a n + bt b n := rfl
      have hq : carry a b c (n + 1) = (bt a n + bt b n + carry a b c n) / 2 := rfl
      have s1 := IntWalk.i64_in (bt a n + bt b n) (by omega)
      obtain ⟨x, hx⟩ : ∃ x, carry a b c n = x := ⟨_, rfl⟩
      rw [hx] at hcl hq b3
      have s2 := IntWalk.i64_in (bt a n + bt b n + x) (by omega)
      have HQ := Lib.hid hq
      have HOWN := Lib.hid hown
      clear hq hx kq hown
      go_wp2_with fail
      go_quiet ((go_at_call 93; first | exact quiet_1 (bit_any _ _ _ (by omega) (by omega)) | exact quiet_2 (bit_any _ _ _ (by omega) (by omega))))
      have hown := Own.drewN HOWN.out nq
      have hnx2 := below_drewN hnx nq
      clear hnx
      have hnx := hnx2
      clear hnx2 HOWN
      have hB := hnx.size
      go_wp2_with ((at_builtin; refine wpList_append_own _ rfl _ _ 23 rfl (w.heap.size) 3 i0 (.int .i64 0) 1 8 Try.underlying23 hi hz0 hz1 hz2 rfl (by decide) _ _ _ rfl (World.ownsRow.alloc hown _) ⟨wr.heap.size, 0, none⟩ 1 1 [.int .i64 ((bt a n + bt b n + x) / 2)] rfl rfl ?c1 ?c2 ?c3 ?c4 ?c5 ?_))
      case c1 =>
        intro j u hj
        match j, hj with
        | 0, hj => simp at hj; subst hj; first | (simp [Addr.add]; done) | exact cell_new _ _
      case c2 => intro u hu; simp at hu; subst hu; rfl
      case c3 => unfold maxLen; simp only [tab_len]; omega
      case c4 => simp only [tab_len]; omega
      case c5 => have := hnx.size; simp; omega
      intro v' w1 hown' hgrow _
      have R := push_rel hnx hB hown hown' hgrow
      have HR := Lib.hid R
      clear R hown' hgrow hown hnx
      go_wp2
      go_roundw
      case rel => exact ⟨n + 1, by omega, by go_num, tab_push HR.out.1 HQ.out, HR.out.2⟩
      case measure => simp [intOf]; omega
    · obtain rfl : n = k.toNat := by omega
      have n1 : ¬ ((k.toNat : Nat) : Int) < k := by omega
      have HO := Lib.hid hown
      clear hown
      go_wp2
      go_ret
      exact lret HO.out hnx
theorem carriesI_any (k a b c : Int) (w : World) :
    Calls Try.prog 28 #[.int .i64 k, .int .i64 a, .int .i64 b, .int .i64 c] w fun e w' => LRet (carriesF k a b c) w e w' := by
  by_cases h : v2 k a b = true
  · obtain ⟨h1, h2, h3, h4, h5, h6, h12⟩ := v2_bd h
    by_cases hv : vbit c = true
    · have hc : 0 ≤ c ∧ c ≤ 1 := by have := vbit_iff.mp hv; omega
      have E := Lib.hid (show carriesL k a b c = carriesF k a b c by unfold carriesF; rw [h, hv]; rfl)
      go_enter Try.func28, Try.ntmps28
      go_wp2_with (first | (go_at_call 60; refine (allValid2_any _ _ _ _ _ (by first | rfl | simp)).mono ?_; rintro e w' ⟨rfl, rfl⟩) | (go_at_call 70; refine (isBit_any _ _).mono ?_; rintro e w' ⟨rfl, rfl⟩) | (go_at_call 71; refine (carries_any _ _ _ _ _ (by omega) (by omega) (by omega)).mono ?_; rintro e w1 ⟨v, rfl, ho, hb⟩))
      go_ret
      exact lret_eq (LRet.up ho hb (below_new1 _ _)) E.out
    · have hv : vbit c = false := by simpa using hv
      have E := Lib.hid (show carriesF k a b c = [] by unfold carriesF; rw [h, hv]; rfl)
      go_enter Try.func28, Try.ntmps28
      go_wp2_with (first | (go_at_call 60; refine (allValid2_any _ _ _ _ _ (by first | rfl | simp)).mono ?_; rintro e w' ⟨rfl, rfl⟩) | (go_at_call 70; refine (isBit_any _ _).mono ?_; rintro e w' ⟨rfl, rfl⟩))
      go_ret
      exact lret_nil E.out (below_new1 _ _)
  · have h : v2 k a b = false := by simpa using h
    have E := Lib.hid (show carriesF k a b c = [] by unfold carriesF; rw [h]; rfl)
    go_enter Try.func28, Try.ntmps28
    go_wp2_with ((go_at_call 60; refine (allValid2_any _ _ _ _ _ (by first | rfl | simp)).mono ?_; rintro e w' ⟨rfl, rfl⟩))
    go_ret
    exact lret_nil E.out (below_new1 _ _)
end Go.Proofs.Yteoalkgpdgoaeaa