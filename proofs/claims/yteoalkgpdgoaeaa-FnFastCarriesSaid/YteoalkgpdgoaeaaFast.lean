/-
  THE WALKS OF FastCarries, the program's and the reference's: each answers the carries' list (carriesF). No condition.
-/
import Derived.Test.YteoalkgpdgoaeaaSteps
import Derived.Maps.AppendAt
namespace Go.Proofs.Yteoalkgpdgoaeaa
open Go Go.RowKit Bw
set_option linter.unusedVariables false
theorem rounds_ge {K : Nat} (hK : K ≤ 12) : K ≤ 2 ^ rounds K := by
  unfold rounds; repeat' split
  all_goals (simp; omega)
theorem told_row {K : Nat} {a b c : Int} (hK : K ≤ 12) (hc : 0 ≤ c ∧ c ≤ 1) (n : Nat) (hn : n < K) : told c ((rowAt K (kind a b) (rounds K)).getD n 0) = carry a b c (n + 1) := by
  have h := congrArg (fun l : List Int => l.getD (n + 1) 0) (fast_carries (a := a) (b := b) hc K (2 ^ rounds K) (rounds_ge hK))
  have e2 : ((List.range (K + 1)).map (carry a b c)).getD (n + 1) 0 = carry a b c (n + 1) := tab_get _ _ _ (by omega)
  have hl : n < (reachL (kind a b) K (2 ^ rounds K)).length := by rw [reachL_len]; exact hn
  have e1 : (fastL c (reachL (kind a b) K (2 ^ rounds K))).getD (n + 1) 0 = told c ((reachL (kind a b) K (2 ^ rounds K)).getD n 0) := by
    simp [fastL, List.getD, hl]
  simp only [e1, e2] at h
  exact h
theorem OwnS.last {w : World} {B K : Nat} {v : Value} {rows : List (List Int)} (h : OwnS w B v K rows) (n : Nat) (hn : rows.length = n + 1) (r : List Int) (hr : rows.getD n [] = r) (hl : r.length = K) :
    ∃ g cap b c, v = .slice (some ⟨g, 0, none⟩) (n + 1) cap ∧ g < w.heap.size ∧ b < w.heap.size ∧ (B ≤ g ∧ B ≤ b) ∧ w.cell? ⟨g, n, none⟩ = some (.slice (some ⟨b, 0, none⟩) K c) ∧ ∀ j, j < K → w.cell? ⟨b, j, none⟩ = some (.int .i64 (r.getD j 0)) := by
  obtain ⟨vs, ho, _, hr2, _⟩ := h
  rw [hn] at ho
  obtain ⟨b, c, h1, h2⟩ := hr2 n (by omega)
  rw [hr] at h2
  rcases ho.2 with ⟨_, h0⟩ | ⟨g, cap, cur, rfl, hg, hh, _⟩
  · omega
  · refine ⟨g, cap, b, c, rfl, (Array.getElem?_eq_some_iff.1 hh).1, (row_block h2 b rfl).2.1, ⟨hg, (row_block h2 b rfl).1⟩, ?_, fun j hj => own_at h2 hl j hj⟩
    rw [World.ownsRow.cellAt ho n (by omega), h1]
theorem rows_last (K : Nat) (f : Nat → Int) (n : Nat) : (rowsL K f (n + 1)).getD n [] = rowAt K f n := by simp [rowsL, List.getD]
theorem fastI_any (k a b c : Int) (w : World) :
    Calls Try.prog 25 #[.int .i64 k, .int .i64 a, .int .i64 b, .int .i64 c] w fun e w' => LRet (carriesF k a b c) w e w' := by
  obtain ⟨i0, hi, hz0, hz1, hz2⟩ := info_parts info_int
  by_cases h : v2 k a b = true
  · obtain ⟨h1, h2, h3, h4, h5, h6, h12⟩ := v2_bd h
    obtain ⟨K, rfl⟩ : ∃ K : Nat, k = (K : Int) := ⟨k.toNat, by omega⟩
    have EP := Lib.hid (show prefixF K a b = rowsL K (kind a b) (rounds K + 1) by unfold prefixF; rw [h, Int.toNat_natCast]; rfl)
    have hK12 : K ≤ 12 := by omega
    have hk0 : (0 : Int) < (K : Int) := by omega
    by_cases hv : vbit c = true
    · have hc : 0 ≤ c ∧ c ≤ 1 := by have := vbit_iff.mp hv; omega
      have E := Lib.hid (show tab (carry a b c) (K + 1) = carriesF K a b c by unfold carriesF; rw [h, hv]; rfl)
      have HTOLD := Lib.hid (told_row (a := a) (b := b) (c := c) hK12 hc)
      clear h
      go_enter Try.func25, Try.ntmps25
      go_wp2_with fail
      refine (prefI_any _ _ _ _).mono ?_
      rintro e w1 ⟨v, rfl, hS, hb⟩
      rw [EP.out] at hS
      rw [Int.toNat_natCast] at hS
      obtain ⟨g, cap, b0, c0, rfl, hgl, hbl, hge, hcell, hrow⟩ := hS.last (rounds K) (rowsL_len _ _ _) _ (rows_last _ _ _) (rowAt_len _ _ _)
      obtain ⟨J, hJ⟩ : ∃ J, rounds K = J := ⟨_, rfl⟩
      rw [hJ] at hrow hcell
      obtain ⟨l, hl⟩ : ∃ l, rowAt K (kind a b) J = l := ⟨_, rfl⟩
      rw [hl] at hrow
      have HTL := Lib.hid (fun n hn => by have := HTOLD.out n hn; rw [hJ, hl] at this; exact this : ∀ n, n < K → told c (l.getD n 0) = carry a b c (n + 1))
      have HROW := Lib.hid hrow
      have j0 : (0 : Int) ≤ (J : Int) := by omega
      have j1 : (J : Int) < (J : Int) + 1 := by omega
      have hj4 : J ≤ 4 := by rw [← hJ]; unfold rounds; repeat' (first | omega | split)
      have s1 := IntWalk.i64_in ((J : Int) + 1 - 1) (by omega)
      have s2 : (J : Int) + 1 - 1 = (J : Int) := by omega
      have jz : ((J : Int) + 1 == 0) = false := by simpa using (show ¬ (J : Int) + 1 = 0 by omega)
      rw [hJ]
      clear hS hrow hl HTOLD hJ
      have HO := Lib.hid (Own.one w1 w1.heap.size (Nat.le_refl _) c)
      have hb0 : w.heap.size ≤ w1.heap.size := hb.size
      go_wp2_with ((go_at_call 70; refine (isBit_any _ _).mono ?_; rintro e w' ⟨rfl, rfl⟩))
      go_loopw [10, 35] (fun v i wr => ∃ n : Nat, n ≤ K ∧ i = .int .i64 n ∧ Own wr w1.heap.size v (tab (carry a b c) (n + 1)) ∧ Below w1.heap.size w1 wr) (fun _ i _ => K - (intOf i).toNat)
      case atStart => exact ⟨0, Nat.zero_le _, rfl, HO.out, below_new1 _ _⟩
      case round =>
        obtain ⟨n, hn, rfl, hown, hb3⟩ := hrel
        have hB := hb3.size
        by_cases hlt : n < K
        · have c1 := (hb3.cell (p := ⟨b0, n, none⟩) hbl).trans (HROW.out n hlt)
          have HTELL := Lib.hid (HTL.out n hlt)
          have n0 : (0 : Int) ≤ (n : Int) := by omega
          have n1 : (n : Int) < (K : Int) := by omega
          obtain ⟨x, hx⟩ : ∃ x, l.getD n 0 = x := ⟨_, rfl⟩
          rw [hx] at c1 HTELL
          clear hx
          by_cases hx2 : x = 2
          · subst hx2
            have HT := Lib.hid (show carry a b c (n + 1) = 1 by rw [← HTELL.out]; unfold told; rw [if_pos (.inl rfl)])
            clear HTELL
            go_wp2_with (at_builtin; refine wpList_append_own _ rfl _ _ 23 rfl (w1.heap.size) 3 i0 (.int .i64 0) 1 8 Try.underlying23 hi hz0 hz1 hz2 rfl (by decide) _ _ _ rfl (World.ownsRow.alloc hown _) ⟨wr.heap.size, 0, none⟩ 1 1 [.int .i64 (1)] rfl rfl ?p1 ?p2 ?p3 ?p4 ?p5 ?_)
            case p1 =>
              intro j u hj
              match j, hj with
              | 0, hj => simp at hj; subst hj; first | (simp [Addr.add]; done) | exact cell_new _ _
            case p2 => intro u hu; simp at hu; subst hu; rfl
            case p3 => unfold maxLen; simp only [tab_len]; omega
            case p4 => simp only [tab_len]; omega
            case p5 => have := hb3.size; simp; omega
            intro v' w5 hown' hgrow _
            have RR := push_rel hb3 hB hown hown' hgrow
            have HR2 := Lib.hid RR
            clear RR hown' hgrow hown hb3
            go_wp2
            go_roundw
            case rel => exact ⟨n + 1, by omega, by go_num, tab_push HR2.out.1 HT.out, HR2.out.2⟩
            case measure => simp [intOf]; omega
          · have e2 : (x == 2) = false := by simpa using hx2
            by_cases hx1 : x = 1
            · subst hx1
              by_cases hc1 : c = 1
              · have HT := Lib.hid (show carry a b c (n + 1) = 1 by rw [← HTELL.out]; unfold told; rw [if_pos (.inr ⟨rfl, hc1⟩)])
                have e3 : (c == 1) = true := by simpa using hc1
                clear HTELL hc1
                go_wp2_with (at_builtin; refine wpList_append_own _ rfl _ _ 23 rfl (w1.heap.size) 3 i0 (.int .i64 0) 1 8 Try.underlying23 hi hz0 hz1 hz2 rfl (by decide) _ _ _ rfl (World.ownsRow.alloc hown _) ⟨wr.heap.size, 0, none⟩ 1 1 [.int .i64 (1)] rfl rfl ?p1 ?p2 ?p3 ?p4 ?p5 ?_)
                case p1 =>
                  intro j u hj
                  match j, hj with
                  | 0, hj => simp at hj; subst hj; first | (simp [Addr.add]; done) | exact cell_new _ _
                case p2 => intro u hu; simp at hu; subst hu; rfl
                case p3 => unfold maxLen; simp only [tab_len]; omega
                case p4 => simp only [tab_len]; omega
                case p5 => have := hb3.size; simp; omega
                intro v' w5 hown' hgrow _
                have RR := push_rel hb3 hB hown hown' hgrow
                have HR2 := Lib.hid RR
                clear RR hown' hgrow hown hb3
                go_wp2
                go_roundw
                case rel => exact ⟨n + 1, by omega, by go_num, tab_push HR2.out.1 HT.out, HR2.out.2⟩
                case measure => simp [intOf]; omega
              · have HT := Lib.hid (show carry a b c (n + 1) = 0 by rw [← HTELL.out]; unfold told; rw [if_neg (by omega)])
                have e3 : (c == 1) = false := by simpa using hc1
                clear HTELL hc1
                go_wp2_with (at_builtin; refine wpList_append_own _ rfl _ _ 23 rfl (w1.heap.size) 3 i0 (.int .i64 0) 1 8 Try.underlying23 hi hz0 hz1 hz2 rfl (by decide) _ _ _ rfl (World.ownsRow.alloc hown _) ⟨wr.heap.size, 0, none⟩ 1 1 [.int .i64 (0)] rfl rfl ?p1 ?p2 ?p3 ?p4 ?p5 ?_)
                case p1 =>
                  intro j u hj
                  match j, hj with
                  | 0, hj => simp at hj; subst hj; first | (simp [Addr.add]; done) | exact cell_new _ _
                case p2 => intro u hu; simp at hu; subst hu; rfl
                case p3 => unfold maxLen; simp only [tab_len]; omega
                case p4 => simp only [tab_len]; omega
                case p5 => have := hb3.size; simp; omega
                intro v' w5 hown' hgrow _
                have RR := push_rel hb3 hB hown hown' hgrow
                have HR2 := Lib.hid RR
                clear RR hown' hgrow hown hb3
                go_wp2
                go_roundw
                case rel => exact ⟨n + 1, by omega, by go_num, tab_push HR2.out.1 HT.out, HR2.out.2⟩
                case measure => simp [intOf]; omega
            · have HT := Lib.hid (show carry a b c (n + 1) = 0 by rw [← HTELL.out]; unfold told; rw [if_neg (by omega)])
              have e4 : (x == 1) = false := by simpa using hx1
              clear HTELL
              go_wp2_with (at_builtin; refine wpList_append_own _ rfl _ _ 23 rfl (w1.heap.size) 3 i0 (.int .i64 0) 1 8 Try.underlying23 hi hz0 hz1 hz2 rfl (by decide) _ _ _ rfl (World.ownsRow.alloc hown _) ⟨wr.heap.size, 0, none⟩ 1 1 [.int .i64 (0)] rfl rfl ?p1 ?p2 ?p3 ?p4 ?p5 ?_)
              case p1 =>
                intro j u hj
                match j, hj with
                | 0, hj => simp at hj; subst hj; first | (simp [Addr.add]; done) | exact cell_new _ _
              case p2 => intro u hu; simp at hu; subst hu; rfl
              case p3 => unfold maxLen; simp only [tab_len]; omega
              case p4 => simp only [tab_len]; omega
              case p5 => have := hb3.size; simp; omega
              intro v' w5 hown' hgrow _
              have RR := push_rel hb3 hB hown hown' hgrow
              have HR2 := Lib.hid RR
              clear RR hown' hgrow hown hb3
              go_wp2
              go_roundw
              case rel => exact ⟨n + 1, by omega, by go_num, tab_push HR2.out.1 HT.out, HR2.out.2⟩
              case measure => simp [intOf]; omega
        · obtain rfl : n = K := by omega
          have n1 : ¬ ((n : Nat) : Int) < (n : Int) := by omega
          have HW := Lib.hid hown
          clear hown
          go_wp2
          go_ret
          exact lret_eq (LRet.up HW.out hb3 hb) E.out
    · have hv : vbit c = false := by simpa using hv
      have E := Lib.hid (show carriesF K a b c = [] by unfold carriesF; rw [h, hv]; rfl)
      clear h
      go_enter Try.func25, Try.ntmps25
      go_wp2_with fail
      refine (prefI_any _ _ _ _).mono ?_
      rintro e w1 ⟨v, rfl, hS, hb⟩
      rw [EP.out] at hS
      rw [Int.toNat_natCast] at hS
      obtain ⟨g, cap, b0, c0, rfl, _, _, _, _, _⟩ := hS.last (rounds K) (rowsL_len _ _ _) _ (rows_last _ _ _) (rowAt_len _ _ _)
      obtain ⟨J, hJ⟩ : ∃ J, rounds K = J := ⟨_, rfl⟩
      have jz : ((J : Int) + 1 == 0) = false := by simpa using (show ¬ (J : Int) + 1 = 0 by omega)
      rw [hJ]
      clear hS hJ
      go_wp2_with ((go_at_call 70; refine (isBit_any _ _).mono ?_; rintro e w' ⟨rfl, rfl⟩))
      go_ret
      exact lret_nil E.out hb
  · have h : v2 k a b = false := by simpa using h
    have E := Lib.hid (show carriesF k a b c = [] by unfold carriesF; rw [h]; rfl)
    have EP := Lib.hid (show prefixF k a b = [] by unfold prefixF; rw [h]; rfl)
    clear h
    go_enter Try.func25, Try.ntmps25
    go_wp2_with fail
    refine (prefI_any _ _ _ _).mono ?_
    rintro e w1 ⟨v, rfl, hS, hb⟩
    obtain ⟨x, n, c', rfl, hn⟩ : ∃ x n c, v = .slice x n c ∧ n = 0 := by
      obtain ⟨vs, ho, _⟩ := hS
      rw [EP.out] at ho
      rcases ho.2 with ⟨rfl, _⟩ | ⟨g, cap, cur, rfl, _⟩
      · exact ⟨_, _, _, rfl, rfl⟩
      · exact ⟨_, _, _, rfl, rfl⟩
    subst hn
    clear hS
    go_wp2_with ((go_at_call 70; refine (isBit_any _ _).mono ?_; rintro e w' ⟨rfl, rfl⟩))
    go_ret
    exact lret_nil E.out hb
theorem cell_grown {w w' : World} {o : Obj} {r : Option Nat} (hg : (w.alloc o).grownBy w' r) (p : Addr) (hlt : p.block < w.heap.size) (hne : r ≠ some p.block) : w'.cell? p = w.cell? p :=
  World.cell?_of_block ((hg.block p.block (by simp; omega) (fun e => hne e.symm)).trans (Below.heap_alloc w o p.block hlt))
theorem fastS_any (k a b c : Int) (w : World) :
    Calls Try.prog 27 #[.int .i64 k, .int .i64 a, .int .i64 b, .int .i64 c] w fun e w' => LRet (carriesF k a b c) w e w' := by
  obtain ⟨i0, hi, hz0, hz1, hz2⟩ := info_parts info_int
  by_cases h : v2 k a b = true
  · obtain ⟨h1, h2, h3, h4, h5, h6, h12⟩ := v2_bd h
    obtain ⟨K, rfl⟩ : ∃ K : Nat, k = (K : Int) := ⟨k.toNat, by omega⟩
    have EP := Lib.hid (show prefixF K a b = rowsL K (kind a b) (rounds K + 1) by unfold prefixF; rw [h, Int.toNat_natCast]; rfl)
    have hK12 : K ≤ 12 := by omega
    have hk0 : (0 : Int) < (K : Int) := by omega
    by_cases hv : vbit c = true
    · have hc : 0 ≤ c ∧ c ≤ 1 := by have := vbit_iff.mp hv; omega
      have hvb : inB c 0 1 = true := hv
      have E := Lib.hid (show tab (carry a b c) (K + 1) = carriesF K a b c by unfold carriesF; rw [h, hv]; rfl)
      have HTOLD := Lib.hid (told_row (a := a) (b := b) (c := c) hK12 hc)
      clear h
      go_enter Try.func27, Try.ntmps27
      go_wp2_with fail
      refine (prefS_any _ _ _ _).mono ?_
      rintro e w1 ⟨v, rfl, hS, hb⟩
      rw [EP.out] at hS
      rw [Int.toNat_natCast] at hS
      obtain ⟨g, cap, b0, c0, rfl, hgl, hbl, hge, hcell, hrow⟩ := hS.last (rounds K) (rowsL_len _ _ _) _ (rows_last _ _ _) (rowAt_len _ _ _)
      obtain ⟨J, hJ⟩ : ∃ J, rounds K = J := ⟨_, rfl⟩
      rw [hJ] at hrow hcell
      obtain ⟨l, hl⟩ : ∃ l, rowAt K (kind a b) J = l := ⟨_, rfl⟩
      rw [hl] at hrow
      have HTL := Lib.hid (fun n hn => by have := HTOLD.out n hn; rw [hJ, hl] at this; exact this : ∀ n, n < K → told c (l.getD n 0) = carry a b c (n + 1))
      have HROW := Lib.hid hrow
      have j0 : (0 : Int) ≤ (J : Int) := by omega
      have j1 : (J : Int) < (J : Int) + 1 := by omega
      have hj4 : J ≤ 4 := by rw [← hJ]; unfold rounds; repeat' (first | omega | split)
      have s1 := IntWalk.i64_in ((J : Int) + 1 - 1) (by omega)
      have s2 : (J : Int) + 1 - 1 = (J : Int) := by omega
      have jz : ((J : Int) + 1 == 0) = false := by simpa using (show ¬ (J : Int) + 1 = 0 by omega)
      have hown := (Own.made w w.heap.size (Nat.le_refl _)).kept_below hb
      have hnx := (below_new1 w (.cells #[] 3)).trans (hb.mono (by simp))
      have hB := hnx.size
      have hge1 : w.heap.size + 1 ≤ g ∧ w.heap.size + 1 ≤ b0 := by simpa using hge
      rw [hJ]
      clear hS hrow hl HTOLD hJ hb hge
      go_wp2_with (first | (go_at_call 62; refine (l1In_any _ _ _ _).mono ?_; rintro e w' ⟨rfl, rfl⟩) | (at_builtin; refine wpList_append_own_at _ rfl _ _ 23 rfl (w.heap.size) 3 i0 (.int .i64 0) 1 8 Try.underlying23 hi hz0 hz1 hz2 rfl (by decide) _ _ _ rfl (World.ownsRow.alloc hown _) ⟨w1.heap.size, 0, none⟩ 1 1 [.int .i64 (c)] rfl rfl ?x1 ?x2 ?x3 ?x4 ?x5 ?_))
      case x1 =>
        intro j u hj
        match j, hj with
        | 0, hj => simp at hj; subst hj; first | (simp [Addr.add]; done) | exact cell_new _ _
      case x2 => intro u hu; simp at hu; subst hu; rfl
      case x3 => unfold maxLen; simp only [List.length_nil]; omega
      case x4 => simp only [List.length_nil]; omega
      case x5 => simp; omega
      intro v' w2 hown' hgrow _ hat
      have hcell2 := (cell_grown hgrow ⟨g, J, none⟩ hgl (by simp [Value.ownBlock]; omega)).trans hcell
      have HROW2 := Lib.hid (fun j hj => (cell_grown hgrow ⟨b0, j, none⟩ hbl (by simp [Value.ownBlock]; omega)).trans (HROW.out j hj) : ∀ j, j < K → w2.cell? ⟨b0, j, none⟩ = some (.int .i64 (l.getD j 0)))
      have hne : v'.ownBlock ≠ some b0 := by
        rcases hat with e | e <;> rw [e] <;> simp [Value.ownBlock] <;> omega
      have hbl2 : b0 < w2.heap.size := by have := hgrow.size; simp at this; omega
      have RR := push_rel hnx hB hown hown' hgrow
      have HP := Lib.hid (And.intro RR.1 (And.intro RR.2 (And.intro hbl2 hne)))
      clear RR hown' hgrow hown hnx hat hne HROW hcell
      go_wp2
      go_loopw [9, 12] (fun v i wr => ∃ n : Nat, n ≤ K ∧ i = .int .i64 n ∧ Own wr w.heap.size v (tab (carry a b c) (n + 1)) ∧ Below w.heap.size w wr ∧ b0 < wr.heap.size ∧ v.ownBlock ≠ some b0 ∧ ∀ j, j < K → wr.cell? ⟨b0, j, none⟩ = some (.int .i64 (l.getD j 0))) (fun _ i _ => K - (intOf i).toNat)
      case atStart => exact ⟨0, Nat.zero_le _, rfl, HP.out.1, HP.out.2.1, HP.out.2.2.1, HP.out.2.2.2, HROW2.out⟩
      case round =>
        obtain ⟨n, hn, rfl, hown, hnx, hbl, hne, hrow⟩ := hrel
        have HR := Lib.hid hrow
        have HNE := Lib.hid hne
        clear hrow hne
        by_cases hlt : n < K
        · have c1 := HR.out n hlt
          have HTELL := Lib.hid (HTL.out n hlt)
          have n0 : (0 : Int) ≤ (n : Int) := by omega
          have n1 : (n : Int) < (K : Int) := by omega
          obtain ⟨x, hx⟩ : ∃ x, l.getD n 0 = x := ⟨_, rfl⟩
          rw [hx] at c1 HTELL
          clear hx
          by_cases hx2 : x = 2
          · subst hx2
            have HT := Lib.hid (show carry a b c (n + 1) = 1 by rw [← HTELL.out]; unfold told; rw [if_pos (.inl rfl)])
            clear HTELL
            go_wp2_with (at_builtin; refine wpList_append_own_at _ rfl _ _ 23 rfl (w.heap.size) 3 i0 (.int .i64 0) 1 8 Try.underlying23 hi hz0 hz1 hz2 rfl (by decide) _ _ _ rfl (World.ownsRow.alloc hown _) ⟨wr.heap.size, 0, none⟩ 1 1 [.int .i64 (1)] rfl rfl ?p1 ?p2 ?p3 ?p4 ?p5 ?_)
            case p1 =>
              intro j u hj
              match j, hj with
              | 0, hj => simp at hj; subst hj; first | (simp [Addr.add]; done) | exact cell_new _ _
            case p2 => intro u hu; simp at hu; subst hu; rfl
            case p3 => unfold maxLen; simp only [tab_len]; omega
            case p4 => simp only [tab_len]; omega
            case p5 => have := hnx.size; simp; omega
            intro v' w5 hown' hgrow _ hat
            have hB := hnx.size
            have HR3 := Lib.hid (fun j hj => (cell_grown hgrow ⟨b0, j, none⟩ hbl HNE.out).trans (HR.out j hj) : ∀ j, j < K → w5.cell? ⟨b0, j, none⟩ = some (.int .i64 (l.getD j 0)))
            have hne : v'.ownBlock ≠ some b0 := by
              rcases hat with e | e <;> rw [e]
              · exact HNE.out
              · simp; omega
            have hbl2 : b0 < w5.heap.size := by have := hgrow.size; simp at this; omega
            have RR := push_rel hnx hB hown hown' hgrow
            have HP2 := Lib.hid (And.intro RR.1 (And.intro RR.2 (And.intro hbl2 hne)))
            clear RR hown' hgrow hown hnx hat hne
            go_wp2
            go_roundw
            case rel => exact ⟨n + 1, by omega, by go_num, tab_push HP2.out.1 HT.out, HP2.out.2.1, HP2.out.2.2.1, HP2.out.2.2.2, HR3.out⟩
            case measure => simp [intOf]; omega
          · have e2 : (x == 2) = false := by simpa using hx2
            by_cases hx1 : x = 1
            · subst hx1
              by_cases hc1 : c = 1
              · have HT := Lib.hid (show carry a b c (n + 1) = 1 by rw [← HTELL.out]; unfold told; rw [if_pos (.inr ⟨rfl, hc1⟩)])
                have e3 : (c == 1) = true := by simpa using hc1
                clear HTELL hc1
                go_wp2_with (at_builtin; refine wpList_append_own_at _ rfl _ _ 23 rfl (w.heap.size) 3 i0 (.int .i64 0) 1 8 Try.underlying23 hi hz0 hz1 hz2 rfl (by decide) _ _ _ rfl (World.ownsRow.alloc hown _) ⟨wr.heap.size, 0, none⟩ 1 1 [.int .i64 (1)] rfl rfl ?p1 ?p2 ?p3 ?p4 ?p5 ?_)
                case p1 =>
                  intro j u hj
                  match j, hj with
                  | 0, hj => simp at hj; subst hj; first | (simp [Addr.add]; done) | exact cell_new _ _
                case p2 => intro u hu; simp at hu; subst hu; rfl
                case p3 => unfold maxLen; simp only [tab_len]; omega
                case p4 => simp only [tab_len]; omega
                case p5 => have := hnx.size; simp; omega
                intro v' w5 hown' hgrow _ hat
                have hB := hnx.size
                have HR3 := Lib.hid (fun j hj => (cell_grown hgrow ⟨b0, j, none⟩ hbl HNE.out).trans (HR.out j hj) : ∀ j, j < K → w5.cell? ⟨b0, j, none⟩ = some (.int .i64 (l.getD j 0)))
                have hne : v'.ownBlock ≠ some b0 := by
                  rcases hat with e | e <;> rw [e]
                  · exact HNE.out
                  · simp; omega
                have hbl2 : b0 < w5.heap.size := by have := hgrow.size; simp at this; omega
                have RR := push_rel hnx hB hown hown' hgrow
                have HP2 := Lib.hid (And.intro RR.1 (And.intro RR.2 (And.intro hbl2 hne)))
                clear RR hown' hgrow hown hnx hat hne
                go_wp2
                go_roundw
                case rel => exact ⟨n + 1, by omega, by go_num, tab_push HP2.out.1 HT.out, HP2.out.2.1, HP2.out.2.2.1, HP2.out.2.2.2, HR3.out⟩
                case measure => simp [intOf]; omega
              · have HT := Lib.hid (show carry a b c (n + 1) = 0 by rw [← HTELL.out]; unfold told; rw [if_neg (by omega)])
                have e3 : (c == 1) = false := by simpa using hc1
                clear HTELL hc1
                go_wp2_with (at_builtin; refine wpList_append_own_at _ rfl _ _ 23 rfl (w.heap.size) 3 i0 (.int .i64 0) 1 8 Try.underlying23 hi hz0 hz1 hz2 rfl (by decide) _ _ _ rfl (World.ownsRow.alloc hown _) ⟨wr.heap.size, 0, none⟩ 1 1 [.int .i64 (0)] rfl rfl ?p1 ?p2 ?p3 ?p4 ?p5 ?_)
                case p1 =>
                  intro j u hj
                  match j, hj with
                  | 0, hj => simp at hj; subst hj; first | (simp [Addr.add]; done) | exact cell_new _ _
                case p2 => intro u hu; simp at hu; subst hu; rfl
                case p3 => unfold maxLen; simp only [tab_len]; omega
                case p4 => simp only [tab_len]; omega
                case p5 => have := hnx.size; simp; omega
                intro v' w5 hown' hgrow _ hat
                have hB := hnx.size
                have HR3 := Lib.hid (fun j hj => (cell_grown hgrow ⟨b0, j, none⟩ hbl HNE.out).trans (HR.out j hj) : ∀ j, j < K → w5.cell? ⟨b0, j, none⟩ = some (.int .i64 (l.getD j 0)))
                have hne : v'.ownBlock ≠ some b0 := by
                  rcases hat with e | e <;> rw [e]
                  · exact HNE.out
                  · simp; omega
                have hbl2 : b0 < w5.heap.size := by have := hgrow.size; simp at this; omega
                have RR := push_rel hnx hB hown hown' hgrow
                have HP2 := Lib.hid (And.intro RR.1 (And.intro RR.2 (And.intro hbl2 hne)))
                clear RR hown' hgrow hown hnx hat hne
                go_wp2
                go_roundw
                case rel => exact ⟨n + 1, by omega, by go_num, tab_push HP2.out.1 HT.out, HP2.out.2.1, HP2.out.2.2.1, HP2.out.2.2.2, HR3.out⟩
                case measure => simp [intOf]; omega
            · have HT := Lib.hid (show carry a b c (n + 1) = 0 by rw [← HTELL.out]; unfold told; rw [if_neg (by omega)])
              have e4 : (x == 1) = false := by simpa using hx1
              clear HTELL
              go_wp2_with (at_builtin; refine wpList_append_own_at _ rfl _ _ 23 rfl (w.heap.size) 3 i0 (.int .i64 0) 1 8 Try.underlying23 hi hz0 hz1 hz2 rfl (by decide) _ _ _ rfl (World.ownsRow.alloc hown _) ⟨wr.heap.size, 0, none⟩ 1 1 [.int .i64 (0)] rfl rfl ?p1 ?p2 ?p3 ?p4 ?p5 ?_)
              case p1 =>
                intro j u hj
                match j, hj with
                | 0, hj => simp at hj; subst hj; first | (simp [Addr.add]; done) | exact cell_new _ _
              case p2 => intro u hu; simp at hu; subst hu; rfl
              case p3 => unfold maxLen; simp only [tab_len]; omega
              case p4 => simp only [tab_len]; omega
              case p5 => have := hnx.size; simp; omega
              intro v' w5 hown' hgrow _ hat
              have hB := hnx.size
              have HR3 := Lib.hid (fun j hj => (cell_grown hgrow ⟨b0, j, none⟩ hbl HNE.out).trans (HR.out j hj) : ∀ j, j < K → w5.cell? ⟨b0, j, none⟩ = some (.int .i64 (l.getD j 0)))
              have hne : v'.ownBlock ≠ some b0 := by
                rcases hat with e | e <;> rw [e]
                · exact HNE.out
                · simp; omega
              have hbl2 : b0 < w5.heap.size := by have := hgrow.size; simp at this; omega
              have RR := push_rel hnx hB hown hown' hgrow
              have HP2 := Lib.hid (And.intro RR.1 (And.intro RR.2 (And.intro hbl2 hne)))
              clear RR hown' hgrow hown hnx hat hne
              go_wp2
              go_roundw
              case rel => exact ⟨n + 1, by omega, by go_num, tab_push HP2.out.1 HT.out, HP2.out.2.1, HP2.out.2.2.1, HP2.out.2.2.2, HR3.out⟩
              case measure => simp [intOf]; omega
        · obtain rfl : n = K := by omega
          have n1 : ¬ ((n : Nat) : Int) < (n : Int) := by omega
          have HW := Lib.hid hown
          clear hown
          go_wp2
          go_ret
          exact lret_eq (lret HW.out hnx) E.out
    · have hv : vbit c = false := by simpa using hv
      have hvb : inB c 0 1 = false := hv
      have E := Lib.hid (show carriesF K a b c = [] by unfold carriesF; rw [h, hv]; rfl)
      clear h
      go_enter Try.func27, Try.ntmps27
      go_wp2_with fail
      refine (prefS_any _ _ _ _).mono ?_
      rintro e w1 ⟨v, rfl, hS, hb⟩
      rw [EP.out] at hS
      rw [Int.toNat_natCast] at hS
      obtain ⟨g, cap, b0, c0, rfl, _, _, _, _, _⟩ := hS.last (rounds K) (rowsL_len _ _ _) _ (rows_last _ _ _) (rowAt_len _ _ _)
      obtain ⟨J, hJ⟩ : ∃ J, rounds K = J := ⟨_, rfl⟩
      have jz : ((J : Int) + 1 == 0) = false := by simpa using (show ¬ (J : Int) + 1 = 0 by omega)
      have HO := Lib.hid ((Own.made w w.heap.size (Nat.le_refl _)).kept_below hb)
      have HB := Lib.hid ((below_new1 w (.cells #[] 3)).trans (hb.mono (by simp)))
      rw [hJ]
      clear hS hJ hb
      go_wp2_with (go_at_call 62; refine (l1In_any _ _ _ _).mono ?_; rintro e w' ⟨rfl, rfl⟩)
      go_ret
      exact lret (E.out ▸ HO.out) HB.out
  · have h : v2 k a b = false := by simpa using h
    have E := Lib.hid (show carriesF k a b c = [] by unfold carriesF; rw [h]; rfl)
    have EP := Lib.hid (show prefixF k a b = [] by unfold prefixF; rw [h]; rfl)
    clear h
    go_enter Try.func27, Try.ntmps27
    go_wp2_with fail
    refine (prefS_any _ _ _ _).mono ?_
    rintro e w1 ⟨v, rfl, hS, hb⟩
    obtain ⟨x, n, c', rfl, hn⟩ : ∃ x n c, v = .slice x n c ∧ n = 0 := by
      obtain ⟨vs, ho, _⟩ := hS
      rw [EP.out] at ho
      rcases ho.2 with ⟨rfl, _⟩ | ⟨g, cap, cur, rfl, _⟩
      · exact ⟨_, _, _, rfl, rfl⟩
      · exact ⟨_, _, _, rfl, rfl⟩
    subst hn
    have HO := Lib.hid ((Own.made w w.heap.size (Nat.le_refl _)).kept_below hb)
    have HB := Lib.hid ((below_new1 w (.cells #[] 3)).trans (hb.mono (by simp)))
    clear hS hb
    go_wp2_with (go_at_call 62; refine (l1In_any _ _ _ _).mono ?_; rintro e w' ⟨rfl, rfl⟩)
    go_ret
    exact lret (E.out ▸ HO.out) HB.out
end Go.Proofs.Yteoalkgpdgoaeaa
