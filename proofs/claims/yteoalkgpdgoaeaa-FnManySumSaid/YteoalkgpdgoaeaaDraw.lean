/-
  THE WALKS OF THE REFERENCE'S DRAWS: a code is read byte by byte; whatever it says, a draw returns numbers in its range, and nothing that was there is written. No condition on the code.
-/
import Derived.Test.YteoalkgpdgoaeaaRow
import Derived.Test.YteoalkgpdgoaeaaWords
namespace Go.Proofs.Yteoalkgpdgoaeaa
open Go Go.RowKit Bw
set_option linter.unusedVariables false

/-- The reader stands in block g, at most M bytes have been read, of what was there in W nothing has been written. -/
def St (W w : World) (g M : Nat) : Prop :=
  W.heap.size ≤ g ∧ g < w.heap.size ∧ Below W.heap.size W w ∧ w.frozen? ⟨g, 1, none⟩ = false ∧
  ∃ (A : Option Addr) (len cap p : Nat), w.cell? ⟨g, 0, none⟩ = some (.slice A len cap) ∧ w.cell? ⟨g, 1, none⟩ = some (.int .i64 (p : Int)) ∧ p ≤ M ∧ len ≤ 2000 ∧
    (len = 0 ∨ ∃ b off, A = some ⟨b, off, none⟩ ∧ b < W.heap.size ∧ ∀ j, j < len → ∃ c : Int, W.cell? ⟨b, off + j, none⟩ = some (.int .u8 c) ∧ 0 ≤ c ∧ c ≤ 255)
theorem St.below {W w : World} {g M : Nat} (h : St W w g M) : Below W.heap.size W w := h.2.2.1
theorem St.drewN {W w : World} {g M : Nat} (h : St W w g M) (n : Nat) : St W (w.drewN n) g M := ⟨h.1, h.2.1, below_drewN h.2.2.1 n, h.2.2.2.1, h.2.2.2.2⟩
theorem St.more {W w : World} {g M N : Nat} (h : St W w g M) (hn : M ≤ N) : St W w g N := by
  obtain ⟨h1, h2, h3, h4, A, len, cap, p, c0, c1, hp, r⟩ := h
  exact ⟨h1, h2, h3, h4, A, len, cap, p, c0, c1, by omega, r⟩
theorem St.alloc {W w : World} {g M : Nat} (h : St W w g M) (o : Obj) : St W (w.alloc o) g M := by
  obtain ⟨h1, h2, h3, h4, A, len, cap, p, c0, c1, r⟩ := h
  refine ⟨h1, by simp; omega, h3.alloc h3.size o, ?_, A, len, cap, p, ?_, ?_, r⟩
  · rw [World.frozen?_of_block (w := w) (Below.heap_alloc w o g h2)]; exact h4
  · rw [World.cell?_of_block (w := w) (Below.heap_alloc w o g h2)]; exact c0
  · rw [World.cell?_of_block (w := w) (Below.heap_alloc w o g h2)]; exact c1
theorem St.grown {W w w' : World} {g M : Nat} {r : Option Nat} (h : St W w g M) (hg : w.grownBy w' r) (hr : ∀ k, r = some k → W.heap.size ≤ k ∧ k ≠ g) : St W w' g M := by
  obtain ⟨h1, h2, h3, h4, A, len, cap, p, c0, c1, rr⟩ := h
  have hb : w'.heap[g]? = w.heap[g]? := hg.block g h2 (fun e => (hr g e.symm).2 rfl)
  refine ⟨h1, Nat.lt_of_lt_of_le h2 hg.size, h3.grown hg h3.size (fun k hk => (hr k hk).1), ?_, A, len, cap, p, ?_, ?_, rr⟩
  · rw [World.frozen?_of_block (w := w) hb]; exact h4
  · rw [World.cell?_of_block (w := w) hb]; exact c0
  · rw [World.cell?_of_block (w := w) hb]; exact c1
theorem St.setCell {W w : World} {g M : Nat} (h : St W w g M) {p : Addr} (hp : W.heap.size ≤ p.block) (hne : p.block ≠ g) (u : Value) : St W (w.setCell p u) g M := by
  obtain ⟨h1, h2, h3, h4, A, len, cap, q, c0, c1, rr⟩ := h
  have hb : (w.setCell p u).heap[g]? = w.heap[g]? := Below.heap_setCell w p u g (fun e => hne e.symm)
  refine ⟨h1, by simpa [World.setCell] using h2, h3.setCell hp u, ?_, A, len, cap, q, ?_, ?_, rr⟩
  · rw [World.frozen?_of_block (w := w) hb]; exact h4
  · rw [World.cell?_of_block (w := w) hb]; exact c0
  · rw [World.cell?_of_block (w := w) hb]; exact c1
theorem St.readBelow {W w w' : World} {g M : Nat} (h : St W w g M) (hb : Below w.heap.size w w') : St W w' g M := by
  obtain ⟨h1, h2, h3, h4, A, len, cap, p, c0, c1, r⟩ := h
  exact ⟨h1, Nat.lt_of_lt_of_le h2 hb.size, h3.trans (hb.mono h3.size), (hb.frozen (p := ⟨g, 1, none⟩) h2).trans h4, A, len, cap, p, (hb.cell (p := ⟨g, 0, none⟩) h2).trans c0, (hb.cell (p := ⟨g, 1, none⟩) h2).trans c1, r⟩
/-- One byte more has been read. -/
theorem St.step {W w : World} {g M : Nat} (A : Option Addr) (len cap p : Nat) (h1 : W.heap.size ≤ g) (h2 : g < w.heap.size) (h3 : Below W.heap.size W w) (h4 : w.frozen? ⟨g, 1, none⟩ = false)
    (c0 : w.cell? ⟨g, 0, none⟩ = some (.slice A len cap)) (c1 : w.cell? ⟨g, 1, none⟩ = some (.int .i64 (p : Int))) (hp : p ≤ M) (hl : len ≤ 2000)
    (r : len = 0 ∨ ∃ b off, A = some ⟨b, off, none⟩ ∧ b < W.heap.size ∧ ∀ j, j < len → ∃ c : Int, W.cell? ⟨b, off + j, none⟩ = some (.int .u8 c) ∧ 0 ≤ c ∧ c ≤ 255) :
    St W (w.setCell ⟨g, 1, none⟩ (.int .i64 ((p : Int) + 1))) g (M + 1) ∧ w.grownBy (w.setCell ⟨g, 1, none⟩ (.int .i64 ((p : Int) + 1))) (some g) := by
  constructor
  · refine ⟨h1, by simpa [World.setCell] using h2, h3.setCell h1 _, (World.frozen?_setCell _ _ _ _).trans h4, A, len, cap, p + 1, ?_, ?_, by omega, hl, r⟩
    · rw [World.cell?_setCell_other _ _ _ _ (by simp)]; exact c0
    · rw [World.cell?_setCell_same _ _ _ c1]; simp
  · exact ⟨rfl, rfl, rfl, by simp [World.setCell], fun k hk hne => Below.heap_setCell w ⟨g, 1, none⟩ _ k (fun e => hne (by rw [e]))⟩
def PickRet (n : Int) (W w : World) (g M : Nat) (e : Ending) (w' : World) : Prop :=
  ∃ x : Int, e = .returned (.int .i64 x) ∧ 0 ≤ x ∧ (1 ≤ n → x < n) ∧ St W w' g (M + 1) ∧ w.grownBy w' (some g)
theorem pick_ret {n x : Int} {W w w' : World} {g M : Nat} (h0 : 0 ≤ x) (h1 : 1 ≤ n → x < n) (hs : St W w' g (M + 1)) (hg : w.grownBy w' (some g)) : PickRet n W w g M (.returned (.int .i64 x)) w' := ⟨x, rfl, h0, h1, hs, hg⟩
theorem pick_drewN {n x : Int} {W w w' : World} {g M : Nat} (h0 : 0 ≤ x) (h1 : 1 ≤ n → x < n) (hs : St W w' g (M + 1)) (hg : w.grownBy w' (some g)) (m : Nat) : PickRet n W w g M (.returned (.int .i64 x)) (w'.drewN m) :=
  ⟨x, rfl, h0, h1, hs.drewN m, hg.os, hg.tape, hg.output, hg.size, hg.block⟩
set_option maxHeartbeats 1000000 in
theorem pick_any (n : Int) (W w : World) (g M : Nat) (h : St W w g M) (hM : M ≤ 100000) :
    Calls Try.prog 58 #[.pointer (some ⟨g, 0, none⟩), .int .i64 n] w fun e w' => PickRet n W w g M e w' := by
  obtain ⟨h1, h2, h3, h4, A, len, cap, p, c0, c1, hp, hl, hr⟩ := h
  obtain ⟨hst, hgr⟩ := St.step A len cap p h1 h2 h3 h4 c0 c1 hp hl hr
  have HS := Lib.hid hst
  have HG := Lib.hid hgr
  clear hst hgr
  have p0 : (0 : Int) ≤ (p : Int) := by omega
  have p1 : (p : Int) ≤ 100000 := by omega
  by_cases hn : n < 1
  · have hf : 1 ≤ n → (0 : Int) < n := fun h => by omega
    have HF := Lib.hid hf
    clear hf hr
    go_enter Try.func58, Try.ntmps58
    go_wp2
    go_ret
    exact pick_ret (Int.le_refl _) HF.out HS.out HG.out
  · rcases hr with rfl | ⟨b, off, rfl, hb, hc⟩
    · have hf : 1 ≤ n → (0 : Int) < n := fun h => by omega
      have HF := Lib.hid hf
      clear hf
      go_enter Try.func58, Try.ntmps58
      go_wp2
      go_ret
      exact pick_ret (Int.le_refl _) HF.out HS.out HG.out
    · by_cases hl0 : len = 0
      · subst hl0
        have hf : 1 ≤ n → (0 : Int) < n := fun h => by omega
        have HF := Lib.hid hf
        clear hf hc
        go_enter Try.func58, Try.ntmps58
        go_wp2
        go_ret
        exact pick_ret (Int.le_refl _) HF.out HS.out HG.out
      · have hlz : ((len : Int) == 0) = false := by simpa using hl0
        have hlp : (0 : Int) < (len : Int) := by omega
        have hl1 : (1 : Int) ≤ (len : Int) := by omega
        have hl2 : (len : Int) ≤ 2000 := by omega
        have hne : b ≠ g := by omega
        by_cases hk : p < len
        · obtain ⟨c, hcell, k0, k1⟩ := hc p hk
          have hcw : w.cell? ⟨b, off + p, none⟩ = some (.int .u8 c) := (h3.cell (p := ⟨b, off + p, none⟩) hb).trans hcell
          clear hc hcell
          have kl : (p : Int) < (len : Int) := by omega
          have t1 : c.tmod n = c % n := Int.tmod_eq_emod_of_nonneg k0
          have m0 := Int.emod_nonneg c (b := n) (by omega)
          have m1 := Int.emod_lt_of_pos c (b := n) (by omega)
          have HF := Lib.hid (show 1 ≤ n → c % n < n from fun _ => m1)
          clear hl0
          go_enter Try.func58, Try.ntmps58
          go_wp2
          go_ret
          exact pick_ret m0 HF.out HS.out HG.out
        · obtain ⟨c, hcell, k0, k1⟩ := hc (p % len) (Nat.mod_lt _ (by omega))
          have hcw : w.cell? ⟨b, off + p % len, none⟩ = some (.int .u8 c) := (h3.cell (p := ⟨b, off + p % len, none⟩) hb).trans hcell
          obtain ⟨d, dcell, d0, d1⟩ := hc ((p * 7 + 3) % len) (Nat.mod_lt _ (by omega))
          have hdw : w.cell? ⟨b, off + (p * 7 + 3) % len, none⟩ = some (.int .u8 d) := (h3.cell (p := ⟨b, off + (p * 7 + 3) % len, none⟩) hb).trans dcell
          clear hc hcell dcell
          have kl : ¬ (p : Int) < (len : Int) := by omega
          have i0 : (0 : Int) ≤ (p : Int) % (len : Int) := Int.emod_nonneg _ (by omega)
          have i1 : (p : Int) % (len : Int) < (len : Int) := Int.emod_lt_of_pos _ (by omega)
          have j0 : (0 : Int) ≤ ((p : Int) * 7 + 3) % (len : Int) := Int.emod_nonneg _ (by omega)
          have j1 : ((p : Int) * 7 + 3) % (len : Int) < (len : Int) := Int.emod_lt_of_pos _ (by omega)
          have q0 : (0 : Int) ≤ (p : Int) / (len : Int) := Int.ediv_nonneg p0 (by omega)
          have q1 : (p : Int) / (len : Int) ≤ (p : Int) := Int.ediv_le_self _ p0
          have t1 : (p : Int).tmod (len : Int) = (p : Int) % (len : Int) := Int.tmod_eq_emod_of_nonneg p0
          have t2 : ((p : Int) * 7 + 3).tmod (len : Int) = ((p : Int) * 7 + 3) % (len : Int) := Int.tmod_eq_emod_of_nonneg (by omega)
          have u1 : ((p : Int) % (len : Int)).toNat = p % len := by rw [← Int.natCast_emod]; rfl
          have u2 : (((p : Int) * 7 + 3) % (len : Int)).toNat = (p * 7 + 3) % len := by
            have : (p : Int) * 7 + 3 = ((p * 7 + 3 : Nat) : Int) := by omega
            rw [this, ← Int.natCast_emod]; rfl
          have e1 := IntWalk.i64_in (c * 131) (by omega)
          have e2 := IntWalk.i64_in ((p : Int) * 7) (by omega)
          have e3 := IntWalk.i64_in ((p : Int) * 7 + 3) (by omega)
          have e4 := IntWalk.i64_in (d * 1117) (by omega)
          have e5 := IntWalk.i64_in (c * 131 + d * 1117) (by omega)
          have e6 := IntWalk.i64_in ((p : Int) * 29) (by omega)
          have e7 := IntWalk.i64_in (c * 131 + d * 1117 + (p : Int) * 29) (by omega)
          have e8 : IntKind.i64.wrap ((p : Int).tdiv (len : Int)) = (p : Int) / (len : Int) := IntWalk.i64_quo _ _ (by omega)
          have e9 := IntWalk.i64_in ((p : Int) / (len : Int) * 53) (by omega)
          obtain ⟨S, hS⟩ : ∃ S, c * 131 + d * 1117 + (p : Int) * 29 + (p : Int) / (len : Int) * 53 = S := ⟨_, rfl⟩
          have s0 : 0 ≤ S ∧ S ≤ 4611686018427387900 := by omega
          have e10 : IntKind.i64.wrap (c * 131 + d * 1117 + (p : Int) * 29 + (p : Int) / (len : Int) * 53) = S := by rw [hS]; exact IntWalk.i64_in _ (by omega)
          have x1 := bits_xor (a := S) (b := S / 64) (by omega) (by omega) (by omega) (by omega)
          have x2 : 0 ≤ xorI S (S / 64) := by unfold xorI; omega
          have t3 : (xorI S (S / 64)).tmod n = xorI S (S / 64) % n := Int.tmod_eq_emod_of_nonneg x2
          have m0 := Int.emod_nonneg (xorI S (S / 64)) (b := n) (by omega)
          have m1 := Int.emod_lt_of_pos (xorI S (S / 64)) (b := n) (by omega)
          have HF := Lib.hid (show 1 ≤ n → xorI S (S / 64) % n < n from fun _ => m1)
          clear hl0 hS
          go_enter Try.func58, Try.ntmps58
          go_wp2
          go_quiet (fail)
          go_wp2
          go_ret
          exact pick_drewN m0 HF.out HS.out HG.out _
def OddRet (W : World) (g M : Nat) (e : Ending) (w' : World) : Prop := ∃ b : Bool, e = .returned (.bool b) ∧ St W w' g M
def NumRet (lo hi : Int) (W : World) (g M : Nat) (e : Ending) (w' : World) : Prop := ∃ x : Int, e = .returned (.int .i64 x) ∧ lo ≤ x ∧ x ≤ hi ∧ St W w' g M
theorem num_ret {lo hi x : Int} {W w' : World} {g M : Nat} (h0 : lo ≤ x) (h1 : x ≤ hi) (hs : St W w' g M) : NumRet lo hi W g M (.returned (.int .i64 x)) w' := ⟨x, rfl, h0, h1, hs⟩
theorem odd_ret {b : Bool} {W w' : World} {g M : Nat} (hs : St W w' g M) : OddRet W g M (.returned (.bool b)) w' := ⟨b, rfl, hs⟩
theorem odd_any (n : Int) (W w : World) (g M : Nat) (h : St W w g M) (hM : M ≤ 100000) (h1 : -1000000 ≤ n) (h2 : n ≤ 1000000) :
    Calls Try.prog 90 #[.pointer (some ⟨g, 0, none⟩), .int .i64 n] w fun e w' => OddRet W g (M + 1) e w' := by
  by_cases hn : 0 < n
  · go_enter Try.func90, Try.ntmps90
    go_wp2_with fail
    refine (pick_any _ W _ _ M h hM).mono ?_
    rintro e w1 ⟨x, rfl, x0, x1, hs, hg⟩
    go_wp2
    go_ret
    exact odd_ret hs
  · go_enter Try.func90, Try.ntmps90
    go_wp2_with fail
    go_ret
    exact odd_ret (h.more (by omega))
/-- A cell of a list that was written out. -/
theorem lit_cell {w w' : World} (l : List Int) (cs : Array Value) (hcs : cs = (l.map (Value.int .i64)).toArray) (lo hi : Int) (hl : ∀ y ∈ l, lo ≤ y ∧ y ≤ hi) (X : Nat) (hX : X < l.length) {r : Option Nat}
    (hg : (w.alloc (.cells cs 3)).grownBy w' r) (hr : r ≠ some w.heap.size) : ∃ y : Int, w'.cell? ⟨w.heap.size, X, none⟩ = some (.int .i64 y) ∧ lo ≤ y ∧ y ≤ hi := by
  have hh : (w.alloc (.cells cs 3)).heap[w.heap.size]? = some (.cells cs 3 (0, 0)) := (MapKept.heap_alloc w _).1
  have h1 : (w.alloc (.cells cs 3)).cell? ⟨w.heap.size, X, none⟩ = some (.int .i64 (l.getD X 0)) := by
    rw [cell_of_row _ _ X cs 3 (0, 0) hh, hcs]; simp [List.getD, hX]
  exact ⟨_, hg.cell h1 (fun e => hr e.symm), hl _ (getD_mem l X hX)⟩
theorem ne_new {g n : Nat} (h : g < n) : (some g : Option Nat) ≠ some n := fun e => by injection e; omega
theorem width_any (n : Int) (W w : World) (g M : Nat) (h : St W w g M) (hM : M ≤ 90000) (h1 : -1000000 ≤ n) (h2 : n ≤ 1000000) :
    Calls Try.prog 57 #[.pointer (some ⟨g, 0, none⟩), .int .i64 n] w fun e w' => NumRet (-1) 13 W g (M + 2) e w' := by
  go_enter Try.func57, Try.ntmps57
  go_wp2_with fail
  refine (odd_any _ W _ _ M h (by omega) h1 h2).mono ?_
  rintro e w1 ⟨b, rfl, hs⟩
  cases b
  · go_wp2_with fail
    refine (pick_any _ W _ _ (M + 1) (hs.alloc _) (by omega)).mono ?_
    rintro e w2 ⟨x, rfl, x0, x1, hs2, hg⟩
    have x1 := x1 (by omega)
    obtain ⟨X, rfl⟩ : ∃ X : Nat, x = (X : Int) := ⟨x.toNat, by omega⟩
    obtain ⟨y, hy, y0, y1⟩ := lit_cell [1, 2, 3, 4, 5, 6, 7, 8, 8, 8, 10, 12] _ (by simp) (-1) 13 (by decide) X (by simp; omega) hg (ne_new hs.2.1)
    go_wp2
    go_ret
    exact num_ret y0 y1 hs2
  · go_wp2_with fail
    refine (pick_any _ W _ _ (M + 1) (hs.alloc _) (by omega)).mono ?_
    rintro e w2 ⟨x, rfl, x0, x1, hs2, hg⟩
    have x1 := x1 (by omega)
    obtain ⟨X, rfl⟩ : ∃ X : Nat, x = (X : Int) := ⟨x.toNat, by omega⟩
    obtain ⟨y, hy, y0, y1⟩ := lit_cell [0, -1, 13] _ (by simp) (-1) 13 (by decide) X (by simp; omega) hg (ne_new hs.2.1)
    go_wp2
    go_ret
    exact num_ret y0 y1 hs2
set_option maxHeartbeats 400000 in
theorem word_lo (k n : Int) (W w : World) (g M : Nat) (h : St W w g M) (hM : M ≤ 90000) (h1 : -1000000 ≤ n) (h2 : n ≤ 1000000) (hk : k < 1) :
    Calls Try.prog 59 #[.pointer (some ⟨g, 0, none⟩), .int .i64 k, .int .i64 n] w fun e w' => NumRet (-1) 4096 W g (M + 4) e w' := by
  go_enter Try.func59, Try.ntmps59
  go_wp2_with fail
  refine (odd_any _ W _ _ M h (by omega) h1 h2).mono ?_
  rintro e w1 ⟨b, rfl, hs⟩
  cases b
  · go_wp2_with fail
    refine (pick_any _ W _ _ (M + 1) hs (by omega)).mono ?_
    rintro e w2 ⟨x, rfl, x0, x1, hs2, -⟩
    have x1 := x1 (by omega)
    by_cases hx : x = 0
    · have hxb : (x == 0) = true := by simpa using hx
      clear hx
      go_wp2_with fail
      refine (pick_any _ W _ _ (M + 2) (hs2.alloc _) (by omega)).mono ?_
      rintro e w3 ⟨z, rfl, z0, z1, hs3, hg⟩
      have z1 := z1 (by omega)
      obtain ⟨Z, rfl⟩ : ∃ Z : Nat, z = (Z : Int) := ⟨z.toNat, by omega⟩
      obtain ⟨y, hy, y0, y1⟩ := lit_cell [0, 1, 1, 0, 1] _ (by simp) 0 4096 (by simp; try omega) Z (by simp; omega) hg (ne_new hs2.2.1)
      have t1 : y.tmod 2 = y % 2 := Int.tmod_eq_emod_of_nonneg y0
      have m0 := Int.emod_nonneg y (b := 2) (by omega)
      have m1 := Int.emod_lt_of_pos y (b := 2) (by omega)
      go_wp2
      go_ret
      exact num_ret (by omega) (by omega) (hs3.more (by omega))
    · have hxb : (x == 0) = false := by simpa using hx
      clear hx
      go_wp2_with fail
      refine (pick_any _ W _ _ (M + 2) hs2 (by omega)).mono ?_
      rintro e w3 ⟨y, rfl, y0, y1, hs3, -⟩
      have y1 := y1 (by omega)
      go_wp2_with fail
      refine (pick_any _ W _ _ (M + 3) hs3 (by omega)).mono ?_
      rintro e w4 ⟨z, rfl, z0, z1, hs4, -⟩
      have z1 := z1 (by omega)
      have t1 : (y * 16 + z).tmod 2 = (y * 16 + z) % 2 := Int.tmod_eq_emod_of_nonneg (by omega)
      have m0 := Int.emod_nonneg (y * 16 + z) (b := 2) (by omega)
      have m1 := Int.emod_lt_of_pos (y * 16 + z) (b := 2) (by omega)
      go_wp2
      go_ret
      exact num_ret (by omega) (by omega) hs4
  · go_wp2_with fail
    refine (pick_any _ W _ _ (M + 1) (hs.alloc _) (by omega)).mono ?_
    rintro e w2 ⟨x, rfl, x0, x1, hs2, hg⟩
    have x1 := x1 (by omega)
    obtain ⟨X, rfl⟩ : ∃ X : Nat, x = (X : Int) := ⟨x.toNat, by omega⟩
    obtain ⟨y, hy, y0, y1⟩ := lit_cell [-1, 2] _ (by simp) (-1) 4096 (by simp; try omega) X (by simp; omega) hg (ne_new hs.2.1)
    go_wp2
    go_ret
    exact num_ret y0 y1 (hs2.more (by omega))
set_option maxHeartbeats 400000 in
theorem word_hi (k n : Int) (W w : World) (g M : Nat) (h : St W w g M) (hM : M ≤ 90000) (h1 : -1000000 ≤ n) (h2 : n ≤ 1000000) (hk : 12 < k) :
    Calls Try.prog 59 #[.pointer (some ⟨g, 0, none⟩), .int .i64 k, .int .i64 n] w fun e w' => NumRet (-1) 4096 W g (M + 4) e w' := by
  go_enter Try.func59, Try.ntmps59
  go_wp2_with fail
  refine (odd_any _ W _ _ M h (by omega) h1 h2).mono ?_
  rintro e w1 ⟨b, rfl, hs⟩
  cases b
  · go_wp2_with fail
    refine (pick_any _ W _ _ (M + 1) hs (by omega)).mono ?_
    rintro e w2 ⟨x, rfl, x0, x1, hs2, -⟩
    have x1 := x1 (by omega)
    by_cases hx : x = 0
    · have hxb : (x == 0) = true := by simpa using hx
      clear hx
      go_wp2_with fail
      refine (pick_any _ W _ _ (M + 2) (hs2.alloc _) (by omega)).mono ?_
      rintro e w3 ⟨z, rfl, z0, z1, hs3, hg⟩
      have z1 := z1 (by omega)
      obtain ⟨Z, rfl⟩ : ∃ Z : Nat, z = (Z : Int) := ⟨z.toNat, by omega⟩
      obtain ⟨y, hy, y0, y1⟩ := lit_cell [0, 4095, 2048, 2047, 1] _ (by simp) 0 4096 (by simp; try omega) Z (by simp; omega) hg (ne_new hs2.2.1)
      have t1 : y.tmod 4096 = y % 4096 := Int.tmod_eq_emod_of_nonneg y0
      have m0 := Int.emod_nonneg y (b := 4096) (by omega)
      have m1 := Int.emod_lt_of_pos y (b := 4096) (by omega)
      go_wp2
      go_ret
      exact num_ret (by omega) (by omega) (hs3.more (by omega))
    · have hxb : (x == 0) = false := by simpa using hx
      clear hx
      go_wp2_with fail
      refine (pick_any _ W _ _ (M + 2) hs2 (by omega)).mono ?_
      rintro e w3 ⟨y, rfl, y0, y1, hs3, -⟩
      have y1 := y1 (by omega)
      go_wp2_with fail
      refine (pick_any _ W _ _ (M + 3) hs3 (by omega)).mono ?_
      rintro e w4 ⟨z, rfl, z0, z1, hs4, -⟩
      have z1 := z1 (by omega)
      have t1 : (y * 16 + z).tmod 4096 = (y * 16 + z) % 4096 := Int.tmod_eq_emod_of_nonneg (by omega)
      have m0 := Int.emod_nonneg (y * 16 + z) (b := 4096) (by omega)
      have m1 := Int.emod_lt_of_pos (y * 16 + z) (b := 4096) (by omega)
      go_wp2
      go_ret
      exact num_ret (by omega) (by omega) hs4
  · go_wp2_with fail
    refine (pick_any _ W _ _ (M + 1) (hs.alloc _) (by omega)).mono ?_
    rintro e w2 ⟨x, rfl, x0, x1, hs2, hg⟩
    have x1 := x1 (by omega)
    obtain ⟨X, rfl⟩ : ∃ X : Nat, x = (X : Int) := ⟨x.toNat, by omega⟩
    obtain ⟨y, hy, y0, y1⟩ := lit_cell [-1, 4096] _ (by simp) (-1) 4096 (by simp; try omega) X (by simp; omega) hg (ne_new hs.2.1)
    go_wp2
    go_ret
    exact num_ret y0 y1 (hs2.more (by omega))
set_option maxHeartbeats 400000 in
theorem word_12 (n : Int) (W w : World) (g M : Nat) (h : St W w g M) (hM : M ≤ 90000) (h1 : -1000000 ≤ n) (h2 : n ≤ 1000000) :
    Calls Try.prog 59 #[.pointer (some ⟨g, 0, none⟩), .int .i64 12, .int .i64 n] w fun e w' => NumRet (-1) 4096 W g (M + 4) e w' := by
  go_enter Try.func59, Try.ntmps59
  go_wp2_with fail
  refine (odd_any _ W _ _ M h (by omega) h1 h2).mono ?_
  rintro e w1 ⟨b, rfl, hs⟩
  cases b
  · go_wp2_with fail
    refine (pick_any _ W _ _ (M + 1) hs (by omega)).mono ?_
    rintro e w2 ⟨x, rfl, x0, x1, hs2, -⟩
    have x1 := x1 (by omega)
    by_cases hx : x = 0
    · have hxb : (x == 0) = true := by simpa using hx
      clear hx
      go_wp2_with fail
      refine (pick_any _ W _ _ (M + 2) (hs2.alloc _) (by omega)).mono ?_
      rintro e w3 ⟨z, rfl, z0, z1, hs3, hg⟩
      have z1 := z1 (by omega)
      obtain ⟨Z, rfl⟩ : ∃ Z : Nat, z = (Z : Int) := ⟨z.toNat, by omega⟩
      obtain ⟨y, hy, y0, y1⟩ := lit_cell [0, 4095, 2048, 2047, 1] _ (by simp) 0 4096 (by simp; try omega) Z (by simp; omega) hg (ne_new hs2.2.1)
      have t1 : y.tmod 4096 = y % 4096 := Int.tmod_eq_emod_of_nonneg y0
      have m0 := Int.emod_nonneg y (b := 4096) (by omega)
      have m1 := Int.emod_lt_of_pos y (b := 4096) (by omega)
      go_wp2
      go_ret
      exact num_ret (by omega) (by omega) (hs3.more (by omega))
    · have hxb : (x == 0) = false := by simpa using hx
      clear hx
      go_wp2_with fail
      refine (pick_any _ W _ _ (M + 2) hs2 (by omega)).mono ?_
      rintro e w3 ⟨y, rfl, y0, y1, hs3, -⟩
      have y1 := y1 (by omega)
      go_wp2_with fail
      refine (pick_any _ W _ _ (M + 3) hs3 (by omega)).mono ?_
      rintro e w4 ⟨z, rfl, z0, z1, hs4, -⟩
      have z1 := z1 (by omega)
      have t1 : (y * 16 + z).tmod 4096 = (y * 16 + z) % 4096 := Int.tmod_eq_emod_of_nonneg (by omega)
      have m0 := Int.emod_nonneg (y * 16 + z) (b := 4096) (by omega)
      have m1 := Int.emod_lt_of_pos (y * 16 + z) (b := 4096) (by omega)
      go_wp2
      go_ret
      exact num_ret (by omega) (by omega) hs4
  · go_wp2_with fail
    refine (pick_any _ W _ _ (M + 1) (hs.alloc _) (by omega)).mono ?_
    rintro e w2 ⟨x, rfl, x0, x1, hs2, hg⟩
    have x1 := x1 (by omega)
    obtain ⟨X, rfl⟩ : ∃ X : Nat, x = (X : Int) := ⟨x.toNat, by omega⟩
    obtain ⟨y, hy, y0, y1⟩ := lit_cell [-1, 4096] _ (by simp) (-1) 4096 (by simp; try omega) X (by simp; omega) hg (ne_new hs.2.1)
    go_wp2
    go_ret
    exact num_ret y0 y1 (hs2.more (by omega))
set_option maxHeartbeats 400000 in
theorem word_mid (k n : Int) (W w : World) (g M : Nat) (h : St W w g M) (hM : M ≤ 90000) (h1 : -1000000 ≤ n) (h2 : n ≤ 1000000) (hk : 1 ≤ k) (hk2 : k < 12) :
    Calls Try.prog 59 #[.pointer (some ⟨g, 0, none⟩), .int .i64 k, .int .i64 n] w fun e w' => NumRet (-1) 4096 W g (M + 4) e w' := by
  obtain ⟨A, hA⟩ : ∃ A, pw k = A := ⟨_, rfl⟩
  have hs := shl_one (k := k) (by omega)
  rw [hA] at hs
  have a0 : 2 ≤ A := hA ▸ pw_ge2 (by omega)
  have a1 : A ≤ 4096 := hA ▸ pw_le12 (by omega)
  clear hA
  go_enter Try.func59, Try.ntmps59
  go_wp2_with fail
  refine (odd_any _ W _ _ M h (by omega) h1 h2).mono ?_
  rintro e w1 ⟨b, rfl, hs⟩
  cases b
  · go_wp2_with fail
    refine (pick_any _ W _ _ (M + 1) hs (by omega)).mono ?_
    rintro e w2 ⟨x, rfl, x0, x1, hs2, -⟩
    have x1 := x1 (by omega)
    by_cases hx : x = 0
    · have hxb : (x == 0) = true := by simpa using hx
      clear hx
      go_wp2_with fail
      refine (pick_any _ W _ _ (M + 2) (hs2.alloc _) (by omega)).mono ?_
      rintro e w3 ⟨z, rfl, z0, z1, hs3, hg⟩
      have z1 := z1 (by omega)
      obtain ⟨Z, rfl⟩ : ∃ Z : Nat, z = (Z : Int) := ⟨z.toNat, by omega⟩
      obtain ⟨y, hy, y0, y1⟩ := lit_cell [0, A - 1, A / 2, A / 2 - 1, 1] _ (by simp) 0 4096 (by simp; try omega) Z (by simp; omega) hg (ne_new hs2.2.1)
      have t1 : y.tmod A = y % A := Int.tmod_eq_emod_of_nonneg y0
      have m0 := Int.emod_nonneg y (b := A) (by omega)
      have m1 := Int.emod_lt_of_pos y (b := A) (by omega)
      go_wp2
      go_ret
      exact num_ret (by omega) (by omega) (hs3.more (by omega))
    · have hxb : (x == 0) = false := by simpa using hx
      clear hx
      go_wp2_with fail
      refine (pick_any _ W _ _ (M + 2) hs2 (by omega)).mono ?_
      rintro e w3 ⟨y, rfl, y0, y1, hs3, -⟩
      have y1 := y1 (by omega)
      go_wp2_with fail
      refine (pick_any _ W _ _ (M + 3) hs3 (by omega)).mono ?_
      rintro e w4 ⟨z, rfl, z0, z1, hs4, -⟩
      have z1 := z1 (by omega)
      have t1 : (y * 16 + z).tmod A = (y * 16 + z) % A := Int.tmod_eq_emod_of_nonneg (by omega)
      have m0 := Int.emod_nonneg (y * 16 + z) (b := A) (by omega)
      have m1 := Int.emod_lt_of_pos (y * 16 + z) (b := A) (by omega)
      go_wp2
      go_ret
      exact num_ret (by omega) (by omega) hs4
  · go_wp2_with fail
    refine (pick_any _ W _ _ (M + 1) (hs.alloc _) (by omega)).mono ?_
    rintro e w2 ⟨x, rfl, x0, x1, hs2, hg⟩
    have x1 := x1 (by omega)
    obtain ⟨X, rfl⟩ : ∃ X : Nat, x = (X : Int) := ⟨x.toNat, by omega⟩
    obtain ⟨y, hy, y0, y1⟩ := lit_cell [-1, A] _ (by simp) (-1) 4096 (by simp; try omega) X (by simp; omega) hg (ne_new hs.2.1)
    go_wp2
    go_ret
    exact num_ret y0 y1 (hs2.more (by omega))
theorem word_any (k n : Int) (W w : World) (g M : Nat) (h : St W w g M) (hM : M ≤ 90000) (h1 : -1000000 ≤ n) (h2 : n ≤ 1000000) :
    Calls Try.prog 59 #[.pointer (some ⟨g, 0, none⟩), .int .i64 k, .int .i64 n] w fun e w' => NumRet (-1) 4096 W g (M + 4) e w' := by
  by_cases a : k < 1
  · exact word_lo k n W w g M h hM h1 h2 a
  · by_cases b : 12 < k
    · exact word_hi k n W w g M h hM h1 h2 b
    · by_cases c : k = 12
      · subst c; exact word_12 n W w g M h hM h1 h2
      · exact word_mid k n W w g M h hM h1 h2 (by omega) (by omega)
end Go.Proofs.Yteoalkgpdgoaeaa
