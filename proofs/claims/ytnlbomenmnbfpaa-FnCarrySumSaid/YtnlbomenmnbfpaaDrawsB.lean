/-
  THE WALKS OF THE DRAWS THAT HAND BACK A LIST: whatever the code says: numbers in their range, a short list; nothing that was there is written. No condition on the code.
-/
import Derived.Test.YtnlbomenmnbfpaaDraws
import Derived.Test.YtnlbomenmnbfpaaListsB
namespace Go.Proofs.Ytnlbomenmnbfpaa
open Go Go.RowKit Bw
set_option linter.unusedVariables false
theorem Own.grownG {w w' : World} {B g : Nat} {v : Value} {l : List Int} (h : Own w B v l) (hg : w.grownBy w' (some g)) (hB : g < B) : Own w' B v l := by
  refine ⟨h.1, ?_⟩
  rcases h.2 with h | ⟨b, cap, cur, hv, hb, hh, r⟩
  · exact .inl h
  · exact .inr ⟨b, cap, cur, hv, hb, (hg.block b (Array.getElem?_eq_some_iff.1 hh).1 (fun e => by cases e; omega)).trans hh, r⟩
/-- What a draw of three numbers and a list, or of a number and a list, hands back. -/
def DrewL3 (w : World) (e : Ending) (w' : World) : Prop := ∃ (k x y : Int) (v : Value) (l : List Int), e = .returned (.tuple #[.int .i64 k, .int .i64 x, .int .i64 y, v]) ∧ (-1 ≤ k ∧ k ≤ 13) ∧ (-1 ≤ x ∧ x ≤ 4096) ∧ (-1 ≤ y ∧ y ≤ 4096) ∧ Rd w' v l ∧ l.length ≤ 60 ∧ Below w.heap.size w w'
theorem drewL3 {k x y : Int} {v : Value} {l : List Int} {w w' : World} (hk : -1 ≤ k ∧ k ≤ 13) (hx : -1 ≤ x ∧ x ≤ 4096) (hy : -1 ≤ y ∧ y ≤ 4096) (hr : Rd w' v l) (hl : l.length ≤ 60) (hb : Below w.heap.size w w') :
    DrewL3 w (.returned (.tuple #[.int .i64 k, .int .i64 x, .int .i64 y, v])) w' := ⟨k, x, y, v, l, rfl, hk, hx, hy, hr, hl, hb⟩
def DrewL1 (w : World) (e : Ending) (w' : World) : Prop := ∃ (k : Int) (v : Value) (l : List Int), e = .returned (.tuple #[.int .i64 k, v]) ∧ (-1 ≤ k ∧ k ≤ 13) ∧ Rd w' v l ∧ l.length ≤ 60 ∧ Below w.heap.size w w'
theorem drewL1 {k : Int} {v : Value} {l : List Int} {w w' : World} (hk : -1 ≤ k ∧ k ≤ 13) (hr : Rd w' v l) (hl : l.length ≤ 60) (hb : Below w.heap.size w w') :
    DrewL1 w (.returned (.tuple #[.int .i64 k, v])) w' := ⟨k, v, l, rfl, hk, hr, hl, hb⟩
/-- Behind an append in a draw. -/
theorem push_st {W wr w1 : World} {g M : Nat} {v v' : Value} {l : List Int} {x : Int} {o : Obj} (hs : St W wr g M) (hown : Own wr (g + 1) v l)
    (hown' : w1.ownsRow (g + 1) 3 1 v' (l.length + 1) (l.map (Value.int .i64) ++ [.int .i64 x])) (hgrow : (wr.alloc o).grownBy w1 v.ownBlock) : Own w1 (g + 1) v' (l ++ [x]) ∧ St W w1 g M := by
  refine ⟨by unfold Own; simpa using hown', (hs.alloc o).grown hgrow fun k hk => ?_⟩
  have h1 := hs.1
  have h2 := hown.lt k hk
  omega
theorem drawCarrySum (a : Option Addr) (len cap : Nat) (zs : List Int) (w : World) (h : IsRow .u8 w a len cap zs) :
    Calls Try.prog 62 #[.slice a len cap] w fun e w' => DrewL3 w e w' := by
  obtain ⟨i0, hi, hz0, hz1, hz2⟩ := info_parts info_int
  go_enter Try.func62, Try.ntmps62
  go_wp2_with fail
  refine (open_any _ _ _ zs _ h).mono ?_
  rintro e w1 ⟨g, rfl, hs⟩
  go_wp2_with fail
  refine (two_any _ w _ _ 0 hs (by omega) (by omega) (by omega)).mono ?_
  rintro e w2 ⟨k, x, y, rfl, hk, hx, hy, hs2⟩
  go_wp2_with fail
  refine (pick_any _ w _ _ 10 hs2 (by omega)).mono ?_
  rintro e w3 ⟨c, rfl, a0, b0, hs3, -⟩
  go_wp2_with fail
  refine (carriesS_any _ _ _ _ _).mono ?_
  rintro e w4 ⟨v, rfl, ho, hb⟩
  have hs4 := hs3.readBelow hb
  have hgv : ∀ j, v.ownBlock = some j → (some g : Option Nat) ≠ some j := fun j hj e => by cases e; have := ho.lt _ hj; have := hs3.2.1; omega
  have R4 : Rd w4 v _ := ho.rd
  have HGV := Lib.hid hgv
  clear hgv ho hb
  go_wp2_with fail
  refine (pick_any _ w _ _ 11 hs4 (by omega)).mono ?_
  rintro e w5 ⟨c1, rfl, a1, b1, hs5, hg5⟩
  have R5 := R4.grown hg5 HGV.out
  by_cases h0 : c1 = 0
  · have e0 : (c1 == 0) = true := by simpa using h0
    clear R4 R5 HGV h0
    have g5 := hs5.2.1
    have hB := hs5.1
    go_wp2_with fail
    refine (pick_any _ w _ _ 12 (hs5.alloc _) (by omega)).mono ?_
    rintro e w6 ⟨n, rfl, a2, b2, hs6, hg6⟩
    have b2 := b2 (by omega)
    have O6 : Own w6 (g + 1) (.slice (some ⟨w5.heap.size, 0, none⟩) 0 0) [] := Own.grownG (Own.made w5 (g + 1) (by omega)) hg6 (by omega)
    have HO6 := Lib.hid O6
    have HS6 := Lib.hid hs6
    clear hs hs2 hs3 hs4 hs5 hg5 hg6 O6 hs6
    obtain ⟨N, rfl⟩ : ∃ N : Nat, n = (N : Int) := ⟨n.toNat, by omega⟩
    go_wp2
    go_loopw [10, 11] (fun v i wr => ∃ (n : Nat) (l : List Int), n + l.length ≤ 13 ∧ i = .int .i64 n ∧ Own wr (g + 1) v l ∧ St w wr g (13 + 2 * l.length)) (fun _ i _ => (intOf i).toNat)
    case atStart => exact ⟨N, [], by simp; omega, rfl, HO6.out, HS6.out⟩
    case round =>
      obtain ⟨n, l, hn, rfl, hown, hs⟩ := hrel
      by_cases hlt : (0 : Int) < (n : Int)
      · have HOWN := Lib.hid hown
        clear hown
        go_wp2_with fail
        refine (pick_any _ w _ _ _ hs (by omega)).mono ?_
        rintro e w7 ⟨x0, rfl, p0, q0, hs7, hg7⟩
        have q0 := q0 (by omega)
        go_wp2_with fail
        refine (pick_any _ w _ _ _ hs7 (by omega)).mono ?_
        rintro e w8 ⟨x1, rfl, p1, q1, hs8, hg8⟩
        have q1 := q1 (by omega)
        have hown := (HOWN.out.grownG hg7 (by omega)).grownG hg8 (by omega)
        have hg9 := hs8.2.1
        have t1 := IntWalk.i64_quo x1 59 (by omega)
        have t2 : 0 ≤ x1 / 59 ∧ x1 / 59 ≤ 1 := by omega
        obtain ⟨q, hq⟩ : ∃ q, x1 / 59 = q := ⟨_, rfl⟩
        rw [hq] at t1 t2
        have t3 := IntWalk.i64_in (q * 2) (by omega)
        have t4 := IntWalk.i64_in (x0 + q * 2) (by omega)
        clear hg7 hg8 hs7 hq
        go_wp2_with (at_builtin; refine wpList_append_own _ rfl _ _ 31 rfl (g + 1) 3 i0 (.int .i64 0) 1 8 Try.underlying31 hi hz0 hz1 hz2 rfl (by decide) _ _ _ rfl (World.ownsRow.alloc hown _) ⟨w8.heap.size, 0, none⟩ 1 1 [.int .i64 (x0 + q * 2)] rfl rfl ?z1 ?z2 ?z3 ?z4 ?z5 ?_)
        case z1 =>
          intro j u hj
          match j, hj with
          | 0, hj => simp at hj; subst hj; first | (simp [Addr.add]; done) | exact cell_new _ _
        case z2 => intro u hu; simp at hu; subst hu; rfl
        case z3 => unfold maxLen; omega
        case z4 => omega
        case z5 => simp; omega
        intro v' w9 hown' hgrow _
        have R := push_st hs8 hown hown' hgrow
        have HR := Lib.hid R
        clear R hown' hgrow hown hs8
        go_wp2
        go_roundw
        case rel => exact ⟨n - 1, l ++ [x0 + q * 2], by simp; omega, by go_num, HR.out.1, HR.out.2.more (by simp; omega)⟩
        case measure => simp [intOf]; omega
      · have HS := Lib.hid hs
        have R := Lib.hid hown.rd
        clear hs hown
        go_wp2
        refine bodyPost_ret (res_tmp4 rfl _ _ _) rfl ?_
        exact drewL3 hk hx hy R.out (by omega) HS.out.below
  · have e0 : (c1 == 0) = false := by simpa using h0
    have R := Lib.hid R5
    have HS := Lib.hid hs5
    have hl := carriesF_len k x y c
    clear R4 R5 HGV hs hs2 hs3 hs4 hs5 hg5
    go_wp2
    refine bodyPost_ret (res_tmp4 rfl _ _ _) rfl ?_
    exact drewL3 hk hx hy R.out (by omega) HS.out.below
end Go.Proofs.Ytnlbomenmnbfpaa
