/-
  THE WALKS OF the sum that carries make, the program's and the reference's, and of the laws' copy of a list. Conditions: the list can be read, and is not longer than 2^20.
-/
import Derived.Test.YteoalkgpdgoaeaaListsB
import Derived.Test.YteoalkgpdgoaeaaRow
namespace Go.Proofs.Yteoalkgpdgoaeaa
open Go Go.RowKit Bw
set_option linter.unusedVariables false
/-! ### the plain function -/
def csumF (k a b : Int) (l : List Int) : Int := if v2 k a b && (decide (k.toNat ≤ l.length) && l.all vbit) then csum k a b (fun i => l.getD i 0) else -1
theorem csumF_no {k a b : Int} {l : List Int} (h : v2 k a b = false) : csumF k a b l = -1 := by unfold csumF; rw [h]; rfl
theorem csumF_short {k a b : Int} {l : List Int} (h : l.length < k.toNat) : csumF k a b l = -1 := by
  unfold csumF; rw [show decide (k.toNat ≤ l.length) = false from decide_eq_false (by omega)]; simp
theorem csumF_bad {k a b : Int} {l : List Int} (n : Nat) (hn : n < l.length) (h : vbit (l.getD n 0) = false) : csumF k a b l = -1 := by
  have : l.all vbit = false := by
    rw [← Bool.not_eq_true, List.all_eq_true]
    intro hh
    have e := hh _ (getD_mem l n hn)
    rw [h] at e; cases e
  unfold csumF; rw [this]; simp
theorem csumF_ok {k a b : Int} {l : List Int} (h : v2 k a b = true) (hk : k.toNat ≤ l.length) (hl : ∀ j, j < l.length → vbit (l.getD j 0) = true) : csumF k a b l = csum k a b (fun i => l.getD i 0) := by
  have : l.all vbit = true := by
    rw [List.all_eq_true]
    intro x hx
    obtain ⟨j, hj, rfl⟩ := List.getElem_of_mem hx
    have := hl j hj
    simpa [List.getD, hj] using this
  unfold csumF; rw [h, this, decide_eq_true hk]; rfl
theorem Rd.slice {w : World} {v : Value} {l : List Int} (h : Rd w v l) : ∃ x c, v = .slice x l.length c := by
  rcases h with ⟨rfl, rfl⟩ | ⟨b, cap, rfl, _⟩
  · exact ⟨_, _, rfl⟩
  · exact ⟨_, _, rfl⟩
theorem Rd.at_ {w : World} {v : Value} {l : List Int} (h : Rd w v l) (hl : 0 < l.length) :
    ∃ g c, v = .slice (some ⟨g, 0, none⟩) l.length c ∧ g < w.heap.size ∧ ∀ j, j < l.length → w.cell? ⟨g, j, none⟩ = some (.int .i64 (l.getD j 0)) := by
  rcases h with ⟨rfl, rfl⟩ | ⟨b, cap, rfl, hb, hc⟩
  · simp at hl
  · exact ⟨_, _, rfl, hb, hc⟩
theorem IsRow.below {k : IntKind} {w w' : World} {a : Option Addr} {len cap : Nat} {zs : List Int} (h : IsRow k w a len cap zs) (hb : Below w.heap.size w w') : IsRow k w' a len cap zs := by
  rcases h with h | ⟨x, ha, h1, h2, hz, hc, hw⟩
  · exact .inl h
  · exact .inr ⟨x, ha, h1, h2, hz, fun i hi => (hb.cell (World.block_lt_of_cell? w _ (hc i hi))).trans (hc i hi), hw⟩
theorem vbit_bd {c : Int} (h : vbit c = true) : 0 ≤ c ∧ c ≤ 1 := by have := vbit_iff.mp h; omega
theorem bit_pw {c : Int} (h : 0 ≤ c ∧ c ≤ 1) (n : Nat) (hn : n ≤ 12) : 0 ≤ c * pw n ∧ c * pw n ≤ 4096 := by
  have hp := pw_pos (n : Int)
  have := pw_le12 (k := (n : Int)) (by omega)
  rcases (show c = 0 ∨ c = 1 by omega) with e | e <;> rw [e] <;> omega
/-! ### the program's -/
/-! ### the reference's -/
/-! ### the laws' copy of a list that came in -/
def cpy (zs : List Int) (len n : Nat) : List Int := zs.take n ++ List.replicate (len - n) 0
theorem cpy_len (zs : List Int) (len n : Nat) (h : n ≤ len) (hz : len ≤ zs.length) : (cpy zs len n).length = len := by simp [cpy]; omega
theorem cpy_0 (zs : List Int) (len : Nat) : cpy zs len 0 = List.replicate len 0 := by simp [cpy]
theorem cpy_all (zs : List Int) (len : Nat) : cpy zs len len = zs.take len := by simp [cpy]
theorem cpy_set (zs : List Int) (len n : Nat) (h : n < len) (hz : len ≤ zs.length) : (cpy zs len n).set n (zs.getD n 0) = cpy zs len (n + 1) := by
  have e : zs.take (n + 1) = zs.take n ++ [zs.getD n 0] := by
    have hn : n < zs.length := by omega
    rw [List.take_add_one]; simp [List.getD, hn]
  unfold cpy
  rw [List.set_append_right _ _ (by simp; omega), e, List.append_assoc]
  congr 1
  rw [show n - (zs.take n).length = 0 by simp; omega, show len - n = (len - (n + 1)) + 1 by omega, List.replicate_succ, List.set_cons_zero]
  rfl
theorem zeros (n : Nat) : (madeCells (Value.cells (.int .i64 0)) (n * 1)).toList = (List.replicate n (0 : Int)).map (Value.int .i64) := by
  apply List.ext_getElem
  · simp [madeCells]
  · intro i h1 h2
    simp [madeCells, Value.cells, Nat.mod_one]
theorem IsRow.full {k : IntKind} {w : World} {a : Option Addr} {len cap : Nat} {zs : List Int} (h : IsRow k w a len cap zs) : len ≤ zs.length := by
  rcases h with ⟨_, h, _⟩ | ⟨x, ha, h1, h2, hz, hc, hw⟩ <;> omega
/-- 'make' of a list of numbers in a region, behind a guard that is met. -/
theorem make_wanted {P : Program} (w : World) {ops : Array Oper} {rest : List Oper} {o : Oper} {a : Act} {Q : Exit → Act → World → Prop}
    (hg : Region.wanted o (yielded ops a.tmps) = true) (l c : Operand) (t : TypeId) (hop : o.op = Op.makeSlice t l c)
    (base : Nat) (e : TypeId) (i : TypeInfo) (z : Value) (size : Nat) (h1 : P.underlying t = some (.slice e)) (h2 : P.info? e = some i) (h3 : i.zero = some z) (h4 : i.size = size)
    (kl kc : IntKind) (L C : Int) (n : Nat) (hl : a.eval l = .int kl L) (hc : a.eval c = .int kc C) (hL : L = (n : Int)) (hC : C = (n : Int)) (b2 : i.bytes * n ≤ 281474976710656) (b3 : n ≤ maxLen) (b4 : base ≤ w.heap.size)
    (hK : ∀ w', w'.ownsRow base e size (.slice (some ⟨w.heap.size, 0, none⟩) n n) n (madeCells z.cells (n * size)).toList → w.grownBy w' none → wpList P ops Q rest (a.put o.dst (.slice (some ⟨w.heap.size, 0, none⟩) n n)) w') :
    wpList P ops Q (o :: rest) a w := by
  refine wpList_step fun K hK' => ?_
  rw [if_pos hg]
  obtain ⟨w', hrun, r1, r2⟩ := run_make_full (P := P) w base t e i z size h1 h2 h3 h4 kl kc n b2 b3 b4
  subst hL
  subst hC
  unfold Oper.wp
  simp [execOp, hop, hl, hc, hrun, Result.andThen]
  exact hK' _ _ (hK w' r1 r2)
end Go.Proofs.Yteoalkgpdgoaeaa
