/-
  THE WALKS OF PrefixSteps, the program's and the reference's: a list of lists of kinds. No condition.
-/
import Derived.Test.YteoalkgpdgoaeaaListsB
import Derived.Test.YteoalkgpdgoaeaaWalksC
import Derived.Test.YteoalkgpdgoaeaaSame
namespace Go.Proofs.Yteoalkgpdgoaeaa
open Go Go.RowKit Bw
set_option linter.unusedVariables false
/-! ### plain -/
def rowAt (K : Nat) (f : Nat → Int) (j : Nat) : List Int := reachL f K (2 ^ j)
def rowsL (K : Nat) (f : Nat → Int) (n : Nat) : List (List Int) := (List.range n).map (rowAt K f)
def rounds (K : Nat) : Nat := if K ≤ 1 then 0 else if K ≤ 2 then 1 else if K ≤ 4 then 2 else if K ≤ 8 then 3 else 4
def prefixF (k a b : Int) : List (List Int) := if v2 k a b then rowsL k.toNat (kind a b) (rounds k.toNat + 1) else []
theorem rounds_lt {K j : Nat} (hK : K ≤ 12) (h : 2 ^ j < K) : j < rounds K := by
  have : j < 4 := by
    rcases Nat.lt_or_ge j 4 with h4 | h4
    · exact h4
    · have : 2 ^ 4 ≤ 2 ^ j := Nat.pow_le_pow_right (by decide) h4
      omega
  unfold rounds
  match j, this with
  | 0, _ => simp at h; split <;> (try omega); split <;> (try omega); split <;> (try omega); split <;> omega
  | 1, _ => simp at h; split <;> (try omega); split <;> (try omega); split <;> (try omega); split <;> omega
  | 2, _ => simp at h; split <;> (try omega); split <;> (try omega); split <;> (try omega); split <;> omega
  | 3, _ => simp at h; split <;> (try omega); split <;> (try omega); split <;> (try omega); split <;> omega
theorem rounds_eq {K j : Nat} (hK : K ≤ 12) (hj : j ≤ rounds K) (h : K ≤ 2 ^ j) : j = rounds K := by
  rcases Nat.lt_or_ge j (rounds K) with h1 | h1
  · exfalso
    have h4 : rounds K ≤ 4 := by unfold rounds; split <;> (try omega); split <;> (try omega); split <;> (try omega); split <;> omega
    have hj4 : j < 4 := by omega
    unfold rounds at h1
    match j, hj4 with
    | 0, _ => simp at h; repeat' (first | omega | split at h1)
    | 1, _ => simp at h; repeat' (first | omega | split at h1)
    | 2, _ => simp at h; repeat' (first | omega | split at h1)
    | 3, _ => simp at h; repeat' (first | omega | split at h1)
  · omega
theorem rowsL_succ (K : Nat) (f : Nat → Int) (n : Nat) : rowsL K f (n + 1) = rowsL K f n ++ [rowAt K f n] := by simp [rowsL, List.range_succ]
theorem rowsL_len (K : Nat) (f : Nat → Int) (n : Nat) : (rowsL K f n).length = n := by simp [rowsL]
theorem rowAt_len (K : Nat) (f : Nat → Int) (j : Nat) : (rowAt K f j).length = K := reachL_len _ _ _
theorem rowAt_0 (K : Nat) (a b : Int) : kindsL K a b = rowAt K (kind a b) 0 := by
  unfold rowAt kindsL
  rw [show (2 : Nat) ^ 0 = 1 from rfl, reach_one (kind_bd a b), Int.toNat_natCast]
theorem rowAt_step (K : Nat) (a b : Int) (j : Nat) : stepL (rowAt K (kind a b) j) (2 ^ j) = rowAt K (kind a b) (j + 1) := by
  unfold rowAt
  rw [reach_step (kind_bd a b) K _ Nat.one_le_two_pow, Nat.pow_succ, Nat.mul_comm]
/-- The list behind some rounds of the inner loop. -/
def mixL (l : List Int) (r k : Nat) : List Int := (stepL l r).take k ++ l.drop k
theorem stepL_len (l : List Int) (r : Nat) : (stepL l r).length = l.length := by simp [stepL]
theorem stepL_get (l : List Int) (r k : Nat) (h : k < l.length) : (stepL l r).getD k 0 = if k < r then l.getD k 0 else join (l.getD (k - r) 0) (l.getD k 0) := by
  simp [stepL, List.getD, h]
theorem mixL_len (l : List Int) (r k : Nat) (h : k ≤ l.length) : (mixL l r k).length = l.length := by simp [mixL, stepL_len]; omega
theorem mixL_end (l : List Int) (r : Nat) : mixL l r l.length = stepL l r := by
  unfold mixL; rw [List.drop_length, List.append_nil, ← stepL_len l r, List.take_length]
theorem mixL_start (l : List Int) (r : Nat) (h : r ≤ l.length) : mixL l r r = l := by
  have e : (stepL l r).take r = l.take r := by
    apply List.ext_getElem
    · simp [stepL_len]
    · intro i h1 h2
      have hi : i < r := by simp at h2; omega
      have hl : i < l.length := by simp at h2; omega
      have := stepL_get l r i hl
      rw [if_pos hi] at this
      have hl2 : i < (stepL l r).length := by rw [stepL_len]; exact hl
      rw [List.getElem_take, List.getElem_take]
      simpa [List.getD, hl, hl2] using this
  unfold mixL
  rw [e, List.take_append_drop]
theorem mixL_set (l : List Int) (r k : Nat) (hr : r ≤ k) (hk : k < l.length) : (mixL l r k).set k (join (l.getD (k - r) 0) (l.getD k 0)) = mixL l r (k + 1) := by
  have hs := stepL_get l r k hk
  rw [if_neg (by omega)] at hs
  have hk2 : k < (stepL l r).length := by rw [stepL_len]; exact hk
  have e : (stepL l r).take (k + 1) = (stepL l r).take k ++ [join (l.getD (k - r) 0) (l.getD k 0)] := by
    rw [List.take_add_one, ← hs]; simp [List.getD, hk2]
  unfold mixL
  rw [List.set_append_right _ _ (by simp [stepL_len]; omega), e, List.append_assoc]
  congr 1
  rw [show k - ((stepL l r).take k).length = 0 by simp [stepL_len]; omega, List.drop_eq_getElem_cons hk, List.set_cons_zero]
  rfl
/-! ### a list of lists in memory -/
theorem info_ints : (Try.prog.info? 23).map (fun i => (i.zero, i.size, i.bytes)) = some (some (.slice none 0 0), 1, 24) := by kernel_rfl
theorem keep_row {w w' : World} {B s n : Nat} {e : TypeId} {v : Value} {xs : List Value} (h : w.ownsRow B e s v n xs) (hk : ∀ g, v.ownBlock = some g → g < w.heap.size → w'.heap[g]? = w.heap[g]?) : w'.ownsRow B e s v n xs := by
  refine ⟨h.1, ?_⟩
  rcases h.2 with h | ⟨g, cap, cur, hv, hg, hh, r⟩
  · exact .inl h
  · exact .inr ⟨g, cap, cur, hv, hg, (hk g (by rw [hv]; rfl) (Array.getElem?_eq_some_iff.1 hh).1).trans hh, r⟩
theorem row_block {w : World} {B s n : Nat} {e : TypeId} {v : Value} {xs : List Value} (h : w.ownsRow B e s v n xs) (g : Nat) (hg : v.ownBlock = some g) : B ≤ g ∧ g < w.heap.size ∧ ∃ cur, w.heap[g]? = some (.cells cur e (0, 0)) := by
  rcases h.2 with ⟨rfl, _⟩ | ⟨g', cap, cur, hv, hb, hh, r⟩
  · cases hg
  · rw [hv] at hg
    obtain rfl : g' = g := by simpa [Value.ownBlock] using hg
    exact ⟨hb, (Array.getElem?_eq_some_iff.1 hh).1, cur, hh⟩
/-- The rows' values, told in a world. -/
def RowsAt (w : World) (B K : Nat) (vs : List Value) (rows : List (List Int)) : Prop :=
  vs.length = rows.length ∧
  (∀ i, i < rows.length → ∃ b c, vs[i]? = some (Value.slice (some ⟨b, 0, none⟩) K c) ∧ Own w B (.slice (some ⟨b, 0, none⟩) K c) (rows.getD i [])) ∧
  (∀ (i j b b' c c' : Nat), i < j → vs[i]? = some (Value.slice (some ⟨b, 0, none⟩) K c) → vs[j]? = some (Value.slice (some ⟨b', 0, none⟩) K c') → b < b')
def OwnS (w : World) (B : Nat) (v : Value) (K : Nat) (rows : List (List Int)) : Prop :=
  ∃ vs : List Value, w.ownsRow B 23 1 v rows.length vs ∧ RowsAt w B K vs rows
theorem OwnS.below {w w' : World} {B K : Nat} {v : Value} {rows : List (List Int)} (h : OwnS w B v K rows) (hb : Below w.heap.size w w') : OwnS w' B v K rows := by
  obtain ⟨vs, ho, hl, hr, hlt⟩ := h
  refine ⟨vs, keep_row ho fun g _ hg => hb.block g hg, hl, fun i hi => ?_, hlt⟩
  obtain ⟨b, c, h1, h2⟩ := hr i hi
  exact ⟨b, c, h1, h2.kept_below hb⟩
theorem push_rows {w0 w w1 : World} {B K b c : Nat} {v v' : Value} {rows : List (List Int)} {vs : List Value} {r : List Int} {o : Obj}
    (ho : w0.ownsRow B 23 1 v rows.length vs) (hR : RowsAt w0 B K vs rows) (hb : Below w0.heap.size w0 w) (hB : B ≤ w0.heap.size)
    (hu : Own w w0.heap.size (.slice (some ⟨b, 0, none⟩) K c) r)
    {N : Nat} (hown' : w1.ownsRow B 23 1 v' N (vs ++ [.slice (some ⟨b, 0, none⟩) K c])) (hN : N = rows.length + 1) (hgrow : (w.alloc o).grownBy w1 v.ownBlock) :
    OwnS w1 B v' K (rows ++ [r]) ∧ Own w1 B (.slice (some ⟨b, 0, none⟩) K c) r ∧ Below B w0 w1 := by
  subst hN
  obtain ⟨hl, hr, hlt⟩ := hR
  have bb := row_block hu b rfl
  have hU : Own w1 B (.slice (some ⟨b, 0, none⟩) K c) r := by
    refine (Own.base (B' := B) ?_ (Nat.le_refl _))
    refine keep_row (w := w) (Own.base hu hB) fun g hg hgl => ?_
    refine (hgrow.block g (by simp; omega) fun e => ?_).trans (Below.heap_alloc w o g hgl)
    have := row_block ho g e.symm
    obtain rfl : b = g := by simpa [Value.ownBlock] using hg
    omega
  refine ⟨⟨vs ++ [.slice (some ⟨b, 0, none⟩) K c], by simpa using hown', by simp [hl], fun i hi => ?_, fun i j b1 b2 c1 c2 hij h1 h2 => ?_⟩, hU, ?_⟩
  · rcases Nat.lt_or_ge i rows.length with hlt2 | hge
    · obtain ⟨b1, c1, h1, h2⟩ := hr i hlt2
      have e : (rows ++ [r]).getD i [] = rows.getD i [] := by simp [List.getD, List.getElem?_append_left, hlt2]
      rw [e]
      refine ⟨b1, c1, by rw [List.getElem?_append_left (by omega)]; exact h1, keep_row (w := w0) h2 fun g hg hgl => ?_⟩
      have hw : w.heap[g]? = w0.heap[g]? := hb.block g hgl
      have hgw : g < w.heap.size := Nat.lt_of_lt_of_le hgl hb.size
      refine ((hgrow.block g (by simp; omega) fun e => ?_).trans (Below.heap_alloc w o g hgw)).trans hw
      obtain ⟨_, _, cur, q1⟩ := row_block ho g e.symm
      obtain ⟨_, _, cur2, q2⟩ := row_block h2 g hg
      rw [q1] at q2
      injection q2 with q2
      injection q2 with _ q3
      exact absurd q3 (by decide)
    · obtain rfl : i = rows.length := by simp at hi; omega
      have e : (rows ++ [r]).getD rows.length [] = r := by simp [List.getD]
      rw [e]
      exact ⟨b, c, by rw [List.getElem?_append_right (by omega), hl]; simp, hU⟩
  · have hj : j < (vs ++ [Value.slice (some ⟨b, 0, none⟩) K c]).length := (List.getElem?_eq_some_iff.1 h2).1
    have hi : i < vs.length := by simp at hj; omega
    rw [List.getElem?_append_left hi] at h1
    rcases Nat.lt_or_ge j vs.length with hlt2 | hge
    · rw [List.getElem?_append_left hlt2] at h2
      exact hlt i j b1 b2 c1 c2 hij h1 h2
    · obtain rfl : j = vs.length := by simp at hj; omega
      rw [List.getElem?_append_right (by omega)] at h2
      simp at h2
      obtain ⟨b3, c3, h3, h4⟩ := hr i (by omega)
      rw [h1] at h3
      have e3 : b1 = b3 := by injection h3 with h3; injection h3 with h3; injection h3 with h3; injection h3
      have := row_block h4 b3 rfl
      omega
  · exact ((hb.mono hB).alloc (Nat.le_trans hB hb.size) o).grown hgrow (by have := hb.size; simp; omega) (fun g hg => (row_block ho g hg).1)
/-- One row alone. -/
theorem one_row {w : World} {B K b c : Nat} {r : List Int} (hB : B ≤ w.heap.size) (hu : Own w B (.slice (some ⟨b, 0, none⟩) K c) r) :
    OwnS (w.alloc (.cells #[.slice (some ⟨b, 0, none⟩) K c] 23)) B (.slice (some ⟨w.heap.size, 0, none⟩) 1 1) K [r] := by
  refine ⟨[.slice (some ⟨b, 0, none⟩) K c], ⟨by simp, .inr ⟨w.heap.size, 1, _, rfl, hB, by exact (MapKept.heap_alloc w _).1, Nat.le_refl _, by simp [maxLen], by simp, by simp⟩⟩, rfl, fun i hi => ?_, fun i j b1 b2 c1 c2 hij h1 h2 => ?_⟩
  · have h0 : i = 0 := by simpa using hi
    subst h0
    exact ⟨b, c, rfl, keep_row (w := w) hu fun g _ hg => Below.heap_alloc w _ g hg⟩
  · have := (List.getElem?_eq_some_iff.1 h2).1
    simp at this; omega
def SRet (K : Nat) (rows : List (List Int)) (w : World) (e : Ending) (w' : World) : Prop := ∃ v, e = .returned v ∧ OwnS w' w.heap.size v K rows ∧ Below w.heap.size w w'
theorem sret {K : Nat} {rows : List (List Int)} {w w' : World} {v : Value} (h : OwnS w' w.heap.size v K rows) (hb : Below w.heap.size w w') : SRet K rows w (.returned v) w' := ⟨v, rfl, h, hb⟩
theorem OwnS.nil (w : World) (B K : Nat) : OwnS w B (.slice none 0 0) K [] := ⟨[], World.ownsRow_nil _ _ _ _, rfl, fun i hi => by simp at hi, fun i j b b' c c' _ h => by simp at h⟩
theorem own_at {w : World} {B g K c : Nat} {l : List Int} (h : Own w B (.slice (some ⟨g, 0, none⟩) K c) l) (hl : l.length = K) (n : Nat) (hn : n < K) : w.cell? ⟨g, n, none⟩ = some (.int .i64 (l.getD n 0)) := by
  subst hl
  rw [World.ownsRow.cellAt h n (by omega), map_getD l n hn]
theorem own_news {w : World} {B g K c : Nat} {l : List Int} (h : Own w B (.slice (some ⟨g, 0, none⟩) K c) l) (hl : l.length = K) :
    ∀ j u, (l.map (Value.int .i64))[j]? = some u → w.cell? ((⟨g, 0, none⟩ : Addr).add j) = some u := by
  intro j u hj
  have hjl : j < l.length := by have := (List.getElem?_eq_some_iff.1 hj).1; simpa using this
  rw [map_getD l j hjl] at hj
  rw [Addr.add_lit, Nat.zero_add, own_at h hl j (by omega)]
  exact hj
theorem own_frozen {w : World} {B g K c : Nat} {l : List Int} (h : Own w B (.slice (some ⟨g, 0, none⟩) K c) l) (hl : l.length = K) (n : Nat) : w.frozen? ⟨g, n, none⟩ = false := by
  subst hl; exact World.ownsRow.frozenAt h n
theorem own_set {w : World} {B g K c : Nat} {l : List Int} (h : Own w B (.slice (some ⟨g, 0, none⟩) K c) l) (hl : l.length = K) (n : Nat) (x : Int) :
    Own (w.setCell ⟨g, n, none⟩ (.int .i64 x)) B (.slice (some ⟨g, 0, none⟩) K c) (l.set n x) ∧ w.grownBy (w.setCell ⟨g, n, none⟩ (.int .i64 x)) (some g) := by
  subst hl
  have hst := World.ownsRow.stored h n (.int .i64 x)
  rw [← List.map_set] at hst
  exact ⟨by unfold Own; rw [List.length_set]; exact hst.1, hst.2⟩
set_option maxRecDepth 20000 in
theorem prefI_any (k a b : Int) (w : World) :
    Calls Try.prog 21 #[.int .i64 k, .int .i64 a, .int .i64 b] w fun e w' => SRet k.toNat (prefixF k a b) w e w' := by
  obtain ⟨i0, hi, hz0, hz1, hz2⟩ := info_parts info_int
  obtain ⟨i1, hi1, hy0, hy1, hy2⟩ := info_parts info_ints
  by_cases h : v2 k a b = true
  · obtain ⟨h1, h2, h3, h4, h5, h6, h12⟩ := v2_bd h
    obtain ⟨K, rfl⟩ : ∃ K : Nat, k = (K : Int) := ⟨k.toNat, by omega⟩
    have E := Lib.hid (show prefixF K a b = rowsL K (kind a b) (rounds K + 1) by unfold prefixF; rw [h, Int.toNat_natCast]; rfl)
    have hK12 : K ≤ 12 := by omega
    have hk0 : (0 : Int) < (K : Int) := by omega
    go_enter Try.func21, Try.ntmps21
    go_wp2_with ((go_at_call 60; refine (allValid2_any _ _ _ _ _ (by first | rfl | simp)).mono ?_; rintro e w' ⟨rfl, rfl⟩))
    clear h
    refine (kinds_any _ _ _ _ (by omega) (by omega)).mono ?_
    rintro e w1 ⟨v, rfl, ho, hb⟩
    rw [rowAt_0] at ho
    obtain ⟨g, cap, rfl, hg, _⟩ := own_form ho (rowAt_len K (kind a b) 0) (by omega)
    have hb1 := (below_new1 w _).trans (hb.mono (by simp))
    have ho1 := ho.base (B' := w.heap.size) (by simp)
    have HS := Lib.hid (one_row (K := K) hb1.size ho1)
    have HB := Lib.hid (hb1.alloc hb1.size (.cells #[.slice (some ⟨g, 0, none⟩) K cap] 23))
    have HO := Lib.hid (ho1.kept_below (below_new1 w1 (.cells #[.slice (some ⟨g, 0, none⟩) K cap] 23)))
    clear ho ho1 hb hb1
    go_wp2
    go_loopw [7, 8, 9] (fun u v r wr => ∃ (j R g c : Nat), j ≤ rounds K ∧ R = 2 ^ j ∧ u = .slice (some ⟨g, 0, none⟩) K c ∧ r = .int .i64 (R : Int) ∧ OwnS wr w.heap.size v K (rowsL K (kind a b) (j + 1)) ∧ Own wr w.heap.size (.slice (some ⟨g, 0, none⟩) K c) (rowAt K (kind a b) j) ∧ Below w.heap.size w wr) (fun _ _ r _ => K - (intOf r).toNat)
    case atStart => exact ⟨0, 1, g, cap, Nat.zero_le _, rfl, rfl, rfl, HS.out, HO.out, HB.out⟩
    case round =>
      obtain ⟨W1, rfl⟩ : ∃ W1, W1 = wr := ⟨_, rfl⟩
      obtain ⟨j, R, g, c, hj, hR, rfl, rfl, hS, hO, hb⟩ := hrel
      by_cases hlt : R < K
      · have hj1 : j < rounds K := rounds_lt hK12 (hR ▸ hlt)
        have hR1 : 1 ≤ R := hR ▸ Nat.one_le_two_pow
        have hj5 : rounds K ≤ 4 := by unfold rounds; repeat' (first | omega | split)
        have HL := Lib.hid (rowAt_len K (kind a b) j)
        have HN := Lib.hid (show stepL (rowAt K (kind a b) j) R = rowAt K (kind a b) (j + 1) by rw [hR]; exact rowAt_step K a b j)
        have HR := Lib.hid hR
        obtain ⟨l, hl⟩ : ∃ l, rowAt K (kind a b) j = l := ⟨_, rfl⟩
        rw [hl] at hO HL HN
        have hll := HL.out
        have NEWS := own_news hO hll
        have hsz := hb.size
        have gl : g < W1.heap.size := (row_block hO g rfl).2.1
        have HS := Lib.hid hS
        have HCELL := Lib.hid (fun n hn => own_at hO hll n hn : ∀ n, n < K → W1.cell? ⟨g, n, none⟩ = some (.int .i64 (l.getD n 0)))
        have k1 : (R : Int) < (K : Int) := by omega
        have k2 : (1 : Int) ≤ (R : Int) := by omega
        clear hS hO hR hl
        go_wp2_with (at_builtin; refine wpList_append_own _ rfl _ _ 23 rfl W1.heap.size 3 i0 (.int .i64 0) 1 8 Try.underlying23 hi hz0 hz1 hz2 rfl (by decide) _ _ _ rfl (World.ownsRow_nil W1 W1.heap.size 3 1) ⟨g, 0, none⟩ K c (l.map (Value.int .i64)) rfl (by simp [hll]) NEWS ?z2 ?z3 ?z4 ?z5 ?_)
        case z2 => intro u hu; simp at hu; obtain ⟨x, _, rfl⟩ := hu; rfl
        case z3 => unfold maxLen; omega
        case z4 => omega
        case z5 => exact Nat.le_refl _
        intro v2' w2 hown' hgrow _
        have hN : Own w2 W1.heap.size v2' l := by unfold Own; rw [hll]; simpa using hown'
        have hb2 : Below W1.heap.size W1 w2 := (Below.refl _ _).grown hgrow (Nat.le_refl _) (fun j hj => by cases hj)
        obtain ⟨g2, c2, rfl, hg2, _⟩ := own_form hN hll (by omega)
        have HM := Lib.hid (show Own w2 W1.heap.size (.slice (some ⟨g2, 0, none⟩) K c2) (mixL l R R) by rw [mixL_start l R (by omega)]; exact hN)
        clear hown' hgrow hN NEWS
        go_wp2
        go_loopw [11] (fun i w3 => ∃ n : Nat, R ≤ n ∧ n ≤ K ∧ i = .int .i64 n ∧ Own w3 W1.heap.size (.slice (some ⟨g2, 0, none⟩) K c2) (mixL l R n) ∧ Below W1.heap.size W1 w3) (fun i _ => K - (intOf i).toNat)
        case atStart => exact ⟨R, Nat.le_refl _, by omega, rfl, HM.out, hb2⟩
        case round =>
          obtain ⟨n, hn1, hn2, rfl, hown, hb3⟩ := hrel
          have hml := mixL_len l R n (by omega)
          rw [hll] at hml
          by_cases hnk : n < K
          · obtain ⟨m, hm⟩ : ∃ m, m = n - R := ⟨_, rfl⟩
            have c1 : wr.drew.cell? ⟨g, m, none⟩ = some (.int .i64 (l.getD m 0)) := (hb3.cell (p := ⟨g, m, none⟩) gl).trans (HCELL.out m (by omega))
            have c4 : wr.drew.cell? ⟨g, n, none⟩ = some (.int .i64 (l.getD n 0)) := (hb3.cell (p := ⟨g, n, none⟩) gl).trans (HCELL.out n (by omega))
            have hownd : Own wr.drew W1.heap.size (.slice (some ⟨g2, 0, none⟩) K c2) (mixL l R n) := hown
            have hbd : Below W1.heap.size W1 wr.drew := below_drewN hb3 1
            have c3 := own_at hownd hml n hnk
            have hf := own_frozen hownd hml n
            have hst := own_set hownd hml n (join (l.getD m 0) (l.getD n 0))
            have hms := mixL_set l R n hn1 (by omega)
            rw [← hm] at hms
            rw [hms] at hst
            have RR := Lib.hid (And.intro hst.1 (hbd.grown hst.2 hbd.size (fun j hj => by cases hj; exact hg2)))
            obtain ⟨x, hx⟩ : ∃ x, l.getD m 0 = x := ⟨_, rfl⟩
            rw [hx] at c1 RR
            obtain ⟨y, hy⟩ : ∃ y, l.getD n 0 = y := ⟨_, rfl⟩
            rw [hy] at c4 RR
            obtain ⟨z, hz⟩ : ∃ z, (mixL l R n).getD n 0 = z := ⟨_, rfl⟩
            rw [hz] at c3
            have n0 : (0 : Int) ≤ (n : Int) := by omega
            have n1 : (n : Int) < (K : Int) := by omega
            have m0 : (0 : Int) ≤ (m : Int) := by omega
            have m1 : (m : Int) < (K : Int) := by omega
            have s1 : IntKind.i64.wrap ((n : Int) - (R : Int)) = (m : Int) := by rw [IntWalk.i64_in _ (by omega)]; omega
            clear hst hms hownd hown hx hy hz hml hbd hm
            go_wp2_with fail
            go_region_law (go_simp; go_at_call 30; refine (joinI_any _ _ _).mono ?_; rintro e w' ⟨rfl, rfl⟩)
            all_goals
              go_wp2
              go_roundw
              case rel => exact ⟨n + 1, by omega, by omega, by go_num, RR.out.1, RR.out.2⟩
              case measure => simp [intOf]; omega
          · obtain rfl : n = K := by omega
            have hown2 : Own wr W1.heap.size (.slice (some ⟨g2, 0, none⟩) n c2) (rowAt n (kind a b) (j + 1)) := by
              rw [← HN.out, ← mixL_end, hll]; exact hown
            obtain ⟨vs, ho, hRA⟩ := HS.out
            have ho3 := keep_row (w' := wr) ho (fun g _ hg => hb3.block g hg)
            have hrl := rowsL_len n (kind a b) (j + 1)
            have s2 := IntWalk.i64_in ((R : Int) * 2) (by omega)
            clear hown
            go_wp2_with (at_builtin; refine wpList_append_own _ rfl _ _ 32 rfl w.heap.size 23 i1 (.slice none 0 0) 1 24 Try.underlying32 hi1 hy0 hy1 hy2 rfl (by decide) _ _ _ rfl (World.ownsRow.alloc ho3 _) ⟨wr.heap.size, 0, none⟩ 1 1 [.slice (some ⟨g2, 0, none⟩) n c2] rfl rfl ?y1 ?y2 ?y3 ?y4 ?y5 ?_)
            case y1 =>
              intro j u hj
              match j, hj with
              | 0, hj => simp at hj; subst hj; simp [Addr.add]
            case y2 => intro u hu; simp at hu; subst hu; rfl
            case y3 => unfold maxLen; rw [hrl]; omega
            case y4 => rw [hrl]; omega
            case y5 => have := hb3.size; simp; omega
            intro v3 w4 hown' hgrow _
            have P := push_rows ho hRA hb3 hsz hown2 hown' (by rw [hrl]) hgrow
            rw [← rowsL_succ] at P
            have HP := Lib.hid P
            clear P hown' hgrow ho ho3 hRA hown2 hrl
            go_wp2
            go_roundw
            case rel => exact ⟨j + 1, R * 2, g2, c2, by omega, by rw [Nat.pow_succ, ← HR.out], rfl, by go_num, HP.out.1, HP.out.2.1, hb.trans HP.out.2.2⟩
            case measure => simp [intOf]; omega
      · have ej := rounds_eq hK12 hj (by omega)
        subst ej
        have HS := Lib.hid hS
        clear hS hO hR
        have hlt2 : ¬ (R : Int) < (K : Int) := by omega
        go_wp2
        go_ret
        exact sret (E.out ▸ HS.out) hb
  · have h : v2 k a b = false := by simpa using h
    have E := Lib.hid (show prefixF k a b = [] by unfold prefixF; rw [h]; rfl)
    go_enter Try.func21, Try.ntmps21
    go_wp2_with ((go_at_call 60; refine (allValid2_any _ _ _ _ _ (by first | rfl | simp)).mono ?_; rintro e w' ⟨rfl, rfl⟩))
    go_ret
    exact sret (E.out ▸ OwnS.nil _ _ _) (below_new1 _ _)
/-! ### the reference's -/
def stepF (l : List Int) (R k : Nat) : Int := if k < R then l.getD k 0 else join (l.getD (k - R) 0) (l.getD k 0)
theorem stepL_tab (l : List Int) (R : Nat) : stepL l R = tab (stepF l R) l.length := rfl
theorem kindsF_0 {K : Nat} {a b : Int} (h : v2 K a b = true) : kindsF K a b = rowAt K (kind a b) 0 := by unfold kindsF; rw [h, ← rowAt_0]; rfl
theorem madeS (w : World) (B : Nat) (hB : B ≤ w.heap.size) : (w.alloc (.cells #[] 23)).ownsRow B 23 1 (.slice (some ⟨w.heap.size, 0, none⟩) 0 0) 0 [] := World.ownsRow_made w #[] 0 hB (by simp [maxLen]) (by simp)
theorem rows0 (w : World) (B K : Nat) : RowsAt w B K [] [] := ⟨rfl, fun i hi => by simp at hi, fun i j b b' c c' _ h => by simp at h⟩
set_option maxRecDepth 20000 in
theorem prefS_any (k a b : Int) (w : World) :
    Calls Try.prog 23 #[.int .i64 k, .int .i64 a, .int .i64 b] w fun e w' => SRet k.toNat (prefixF k a b) w e w' := by
  obtain ⟨i0, hi, hz0, hz1, hz2⟩ := info_parts info_int
  obtain ⟨i1, hi1, hy0, hy1, hy2⟩ := info_parts info_ints
  by_cases h : v2 k a b = true
  · obtain ⟨h1, h2, h3, h4, h5, h6, h12⟩ := v2_bd h
    obtain ⟨K, rfl⟩ : ∃ K : Nat, k = (K : Int) := ⟨k.toNat, by omega⟩
    have E := Lib.hid (show prefixF K a b = rowsL K (kind a b) (rounds K + 1) by unfold prefixF; rw [h, Int.toNat_natCast]; rfl)
    have E0 := Lib.hid (kindsF_0 h)
    have hK12 : K ≤ 12 := by omega
    have hk0 : (0 : Int) < (K : Int) := by omega
    have hkz : ((K : Int) == 0) = false := by simpa using (show ¬ (K : Int) = 0 by omega)
    clear h
    go_enter Try.func23, Try.ntmps23
    go_wp2_with fail
    refine (kindsS_any _ _ _ _).mono ?_
    rintro e w1 ⟨v, rfl, ho, hb⟩
    rw [E0.out] at ho
    obtain ⟨g, cap, rfl, hg, _⟩ := own_form ho (rowAt_len K (kind a b) 0) (by omega)
    have hO0 := madeS w w.heap.size (Nat.le_refl _)
    have hO1 := keep_row (w' := w1) hO0 (fun g _ hg => hb.block g hg)
    have hsz0 := hb.size
    go_wp2_with (at_builtin; refine wpList_append_own _ rfl _ _ 32 rfl w.heap.size 23 i1 (.slice none 0 0) 1 24 Try.underlying32 hi1 hy0 hy1 hy2 rfl (by decide) _ _ _ rfl (World.ownsRow.alloc hO1 _) ⟨w1.heap.size, 0, none⟩ 1 1 [.slice (some ⟨g, 0, none⟩) K cap] rfl rfl ?x1 ?x2 ?x3 ?x4 ?x5 ?_)
    case x1 =>
      intro j u hj
      match j, hj with
      | 0, hj => simp at hj; subst hj; simp [Addr.add]
    case x2 => intro u hu; simp at hu; subst hu; rfl
    case x3 => unfold maxLen; omega
    case x4 => omega
    case x5 => simp at hsz0 ⊢; omega
    intro v2' w2 hown' hgrow _
    have P := push_rows hO0 (rows0 _ _ K) hb (by simp) ho hown' rfl hgrow
    have HP := Lib.hid (And.intro P.1 (And.intro P.2.1 ((below_new1 w (.cells #[] 23)).trans P.2.2)))
    clear P hown' hgrow hO0 hO1 ho hb
    go_wp2
    go_loopw [7, 8, 9] (fun v u r wr => ∃ (j R g c : Nat), j ≤ rounds K ∧ R = 2 ^ j ∧ u = .slice (some ⟨g, 0, none⟩) K c ∧ r = .int .i64 (R : Int) ∧ OwnS wr w.heap.size v K (rowsL K (kind a b) (j + 1)) ∧ Own wr w.heap.size (.slice (some ⟨g, 0, none⟩) K c) (rowAt K (kind a b) j) ∧ Below w.heap.size w wr) (fun _ _ r _ => K - (intOf r).toNat)
    case atStart => exact ⟨0, 1, g, cap, Nat.zero_le _, rfl, rfl, rfl, HP.out.1, HP.out.2.1, HP.out.2.2⟩
    case round =>
      obtain ⟨W1, rfl⟩ : ∃ W1, W1 = wr := ⟨_, rfl⟩
      obtain ⟨j, R, g, c, hj, hR, rfl, rfl, hS, hO, hb⟩ := hrel
      by_cases hlt : R < K
      · have hj1 : j < rounds K := rounds_lt hK12 (hR ▸ hlt)
        have hR1 : 1 ≤ R := hR ▸ Nat.one_le_two_pow
        have hj5 : rounds K ≤ 4 := by unfold rounds; repeat' (first | omega | split)
        have HL := Lib.hid (rowAt_len K (kind a b) j)
        have HN := Lib.hid (show stepL (rowAt K (kind a b) j) R = rowAt K (kind a b) (j + 1) by rw [hR]; exact rowAt_step K a b j)
        have HR := Lib.hid hR
        obtain ⟨l, hl⟩ : ∃ l, rowAt K (kind a b) j = l := ⟨_, rfl⟩
        rw [hl] at hO HL HN
        have hll := HL.out
        have hsz := hb.size
        have gl : g < W1.heap.size := (row_block hO g rfl).2.1
        have HS := Lib.hid hS
        have HCELL := Lib.hid (fun n hn => own_at hO hll n hn : ∀ n, n < K → W1.cell? ⟨g, n, none⟩ = some (.int .i64 (l.getD n 0)))
        have k1 : (R : Int) < (K : Int) := by omega
        have k2 : (1 : Int) ≤ (R : Int) := by omega
        have HM := Lib.hid (Own.made W1 W1.heap.size (Nat.le_refl _))
        have HB := Lib.hid (below_new1 W1 (.cells #[] 3))
        clear hS hO hR hl
        go_wp2
        go_loopw [10, 11] (fun v i w3 => ∃ n : Nat, n ≤ K ∧ i = .int .i64 n ∧ Own w3 W1.heap.size v (tab (stepF l R) n) ∧ Below W1.heap.size W1 w3) (fun _ i _ => K - (intOf i).toNat)
        case atStart => exact ⟨0, Nat.zero_le _, rfl, HM.out, HB.out⟩
        case round =>
          obtain ⟨n, hn2, rfl, hown, hb3⟩ := hrel
          have hB := hb3.size
          by_cases hnk : n < K
          · have c4 : wr.drew.cell? ⟨g, n, none⟩ = some (.int .i64 (l.getD n 0)) := (hb3.cell (p := ⟨g, n, none⟩) gl).trans (HCELL.out n (by omega))
            have c5 : wr.cell? ⟨g, n, none⟩ = some (.int .i64 (l.getD n 0)) := c4
            have n0 : (0 : Int) ≤ (n : Int) := by omega
            have n1 : (n : Int) < (K : Int) := by omega
            by_cases hkR : n < R
            · have n2 : (n : Int) < (R : Int) := by omega
              obtain ⟨x, hx⟩ : ∃ x, l.getD n 0 = x := ⟨_, rfl⟩
              rw [hx] at c4 c5
              have HX := Lib.hid (show stepF l R n = x by unfold stepF; rw [if_pos hkR, hx])
              clear hx c4
              go_wp2_with (at_builtin; refine wpList_append_own _ rfl _ _ 23 rfl (W1.heap.size) 3 i0 (.int .i64 0) 1 8 Try.underlying23 hi hz0 hz1 hz2 rfl (by decide) _ _ _ rfl (World.ownsRow.alloc hown _) ⟨wr.heap.size, 0, none⟩ 1 1 [.int .i64 (x)] rfl rfl ?q1 ?q2 ?q3 ?q4 ?q5 ?_)
              case q1 =>
                intro j u hj
                match j, hj with
                | 0, hj => simp at hj; subst hj; first | (simp [Addr.add]; done) | exact cell_new _ _
              case q2 => intro u hu; simp at hu; subst hu; rfl
              case q3 => unfold maxLen; simp only [tab_len]; omega
              case q4 => simp only [tab_len]; omega
              case q5 => simp; omega
              intro v' w5 hown' hgrow _
              have RR := push_rel hb3 hB hown hown' hgrow
              have HR2 := Lib.hid RR
              clear RR hown' hgrow hown hb3
              go_wp2
              go_roundw
              case rel => exact ⟨n + 1, by omega, by go_num, tab_push HR2.out.1 HX.out, HR2.out.2⟩
              case measure => simp [intOf]; omega
            · have n2 : ¬ (n : Int) < (R : Int) := by omega
              obtain ⟨m, hm⟩ : ∃ m, m = n - R := ⟨_, rfl⟩
              have c1 : wr.drew.cell? ⟨g, m, none⟩ = some (.int .i64 (l.getD m 0)) := (hb3.cell (p := ⟨g, m, none⟩) gl).trans (HCELL.out m (by omega))
              have HX := Lib.hid (show stepF l R n = join (l.getD m 0) (l.getD n 0) by unfold stepF; rw [if_neg hkR, hm])
              obtain ⟨g3, c3, rfl, hg3, _⟩ := own_form hown (tab_len _ _) (by omega)
              obtain ⟨x, hx⟩ : ∃ x, l.getD m 0 = x := ⟨_, rfl⟩
              rw [hx] at c1 HX
              obtain ⟨y, hy⟩ : ∃ y, l.getD n 0 = y := ⟨_, rfl⟩
              rw [hy] at c4 c5 HX
              have m0 : (0 : Int) ≤ (m : Int) := by omega
              have m1 : (m : Int) < (K : Int) := by omega
              have s1 : IntKind.i64.wrap ((n : Int) - (R : Int)) = (m : Int) := by rw [IntWalk.i64_in _ (by omega)]; omega
              have HOWN := Lib.hid hown
              clear hx hy hm hown
              go_wp2_with fail
              have hown := HOWN.out
              go_region_law (first | (refine step_append_lies _ (by rfl) _ _ _ (by rfl) W1.heap.size 3 i0 (.int .i64 0) 1 8 Try.underlying23 hi hz0 hz1 hz2 rfl (by omega) _ _ _ (by rfl) ((World.ownsRow.alloc hown _).drew) ⟨wr.heap.size, 0, none⟩ 1 1 [.int .i64 (join x y)] (by rfl) (by rfl) (fun j u hj => by match j, hj with | 0, hj => (simp at hj; subst hj; exact cell_new wr _)) (by intro u hu; simp at hu; subst hu; rfl) (by omega) (by rw [tab_len]; unfold maxLen; omega) (by rw [tab_len]; omega) (by simp; omega) (wr.heap.size + 1) (by simp) ?_; intro gg cap1 w5 hown' hgrow _ _) | (go_simp; go_at_call 31; refine (joinS_any _ _ _).mono ?_; rintro e w' ⟨rfl, rfl⟩))
              all_goals
                have RR := push_rel hb3 hB HOWN.out hown' (undrew hgrow)
                have HR2 := Lib.hid RR
                clear RR hown' hgrow hown
                go_wp2
                go_roundw
                case rel => exact ⟨n + 1, by omega, by go_num, tab_push HR2.out.1 HX.out, HR2.out.2⟩
                case measure => simp [intOf]; omega
          · obtain rfl : n = K := by omega
            have hown2 := hown
            rw [show tab (stepF l R) n = rowAt n (kind a b) (j + 1) by rw [← HN.out, stepL_tab, hll]] at hown2
            obtain ⟨g2, c2, rfl, _, _⟩ := own_form hown2 (rowAt_len _ _ _) (by omega)
            obtain ⟨vs, ho, hRA⟩ := HS.out
            have ho3 := keep_row (w' := wr) ho (fun g _ hg => hb3.block g hg)
            have hrl := rowsL_len n (kind a b) (j + 1)
            have s2 := IntWalk.i64_in ((R : Int) * 2) (by omega)
            have s3 := IntWalk.i64_in (2 * (R : Int)) (by omega)
            clear hown
            go_wp2_with (at_builtin; refine wpList_append_own _ rfl _ _ 32 rfl w.heap.size 23 i1 (.slice none 0 0) 1 24 Try.underlying32 hi1 hy0 hy1 hy2 rfl (by decide) _ _ _ rfl (World.ownsRow.alloc ho3 _) ⟨wr.heap.size, 0, none⟩ 1 1 [.slice (some ⟨g2, 0, none⟩) n c2] rfl rfl ?y1 ?y2 ?y3 ?y4 ?y5 ?_)
            case y1 =>
              intro j u hj
              match j, hj with
              | 0, hj => simp at hj; subst hj; simp [Addr.add]
            case y2 => intro u hu; simp at hu; subst hu; rfl
            case y3 => unfold maxLen; rw [hrl]; omega
            case y4 => rw [hrl]; omega
            case y5 => have := hb3.size; simp; omega
            intro v3 w4 hown' hgrow _
            have P := push_rows ho hRA hb3 hsz hown2 hown' (by rw [hrl]) hgrow
            rw [← rowsL_succ] at P
            have HP := Lib.hid P
            clear P hown' hgrow ho ho3 hRA hown2 hrl
            go_wp2
            go_roundw
            case rel => exact ⟨j + 1, R * 2, g2, c2, by omega, by rw [Nat.pow_succ, ← HR.out], rfl, by go_num, HP.out.1, HP.out.2.1, hb.trans HP.out.2.2⟩
            case measure => simp [intOf]; omega
      · have ej := rounds_eq hK12 hj (by omega)
        subst ej
        have HS := Lib.hid hS
        clear hS hO hR
        have hlt2 : ¬ (R : Int) < (K : Int) := by omega
        go_wp2
        go_ret
        exact sret (E.out ▸ HS.out) hb
  · have h : v2 k a b = false := by simpa using h
    have E := Lib.hid (show prefixF k a b = [] by unfold prefixF; rw [h]; rfl)
    have E0 := Lib.hid (show kindsF k a b = [] by unfold kindsF; rw [h]; rfl)
    clear h
    go_enter Try.func23, Try.ntmps23
    go_wp2_with fail
    refine (kindsS_any _ _ _ _).mono ?_
    rintro e w1 ⟨v, rfl, ho, hb⟩
    obtain ⟨x, n, c, rfl, hn⟩ : ∃ x n c, v = .slice x n c ∧ n = 0 := by
      rcases ho.form with ⟨rfl, hl⟩ | ⟨g, cap, rfl, _, _⟩
      · exact ⟨_, _, _, rfl, rfl⟩
      · exact ⟨_, _, _, rfl, by rw [E0.out]; rfl⟩
    subst hn
    have hO0 : OwnS (w.alloc (.cells #[] 23)) w.heap.size (.slice (some ⟨w.heap.size, 0, none⟩) 0 0) k.toNat [] := ⟨[], madeS w w.heap.size (Nat.le_refl _), rows0 _ _ _⟩
    have HO := Lib.hid (hO0.below hb)
    have HB := Lib.hid ((below_new1 w (.cells #[] 23)).trans (hb.mono (by simp)))
    clear hO0 ho hb
    go_wp2
    go_ret
    exact sret (E.out ▸ HO.out) HB.out
end Go.Proofs.Yteoalkgpdgoaeaa
