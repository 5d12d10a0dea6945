/-
  A LIST OF NUMBERS THAT LIES IN THE MIDDLE OF A ROW OF THE CALL's OWN ('Win': what 'list[3:]' leaves, and what is appended to it), and append, its ways in one law. Conditions: as the premises name them.
-/
import Derived.Test.YteoalkgpdgoaeaaLists
import Derived.Deep.Upon
namespace Go.Proofs.Yteoalkgpdgoaeaa
open Go Go.RowKit Bw
set_option linter.unusedVariables false
theorem tape_setCells (b : Nat) : ∀ (vs : List Value) (o : Nat) (w : World), (w.setCells b o vs).tape = w.tape
  | [], _, _ => rfl
  | v :: r, o, w => by rw [World.setCells, tape_setCells b r]; rfl
/-- A slice of the call's own (its blocks are B or more), and what lies in it. -/
def Win (w : World) (B : Nat) (v : Value) (l : List Int) : Prop :=
  ∃ ao b off cap, v = .slice ao l.length cap ∧ Came w 1 ao b off l.length cap (l.map (Value.int .i64)) ∧ (0 < cap → B ≤ b)
theorem came_under {w w' : World} {ao : Option Addr} {b off len cap : Nat} {olds : List Value} (h : Came w 1 ao b off len cap olds) (hb : Below w.heap.size w w') : Came w' 1 ao b off len cap olds := by
  have hle := h.le
  have hol := h.oldsLen
  refine ⟨h.le, h.addr, fun hc => Nat.lt_of_lt_of_le (h.lt hc) hb.size, h.oldsLen, fun j u hu => ?_, fun j hj => ?_⟩
  · have hj := (List.getElem?_eq_some_iff.1 hu).1
    exact (hb.cell (p := ⟨b, off + j, none⟩) (h.lt (by omega))).trans (h.olds j u hu)
  · have hs := h.spare j hj
    have hl := h.lt (by omega)
    rw [hb.cell (p := ⟨b, off + len * 1 + j, none⟩) hl, hb.frozen (p := ⟨b, off + len * 1 + j, none⟩) hl]
    exact hs
theorem Win.below {w w' : World} {B : Nat} {v : Value} {l : List Int} (h : Win w B v l) (hb : Below w.heap.size w w') : Win w' B v l := by
  obtain ⟨ao, b, off, cap, hv, hc, hB⟩ := h
  exact ⟨ao, b, off, cap, hv, came_under hc hb, hB⟩
theorem Win.empty (w : World) (B : Nat) (ao : Option Addr) : Win w B (.slice ao 0 0) [] :=
  ⟨ao, 0, 0, 0, rfl, ⟨Nat.le_refl _, fun h => by omega, fun h => by omega, rfl, fun j u h => by simp at h, fun j h => by omega⟩, fun h => by omega⟩
theorem Win.slice {w : World} {B : Nat} {v : Value} {l : List Int} (h : Win w B v l) : ∃ x c, v = .slice x l.length c := by
  obtain ⟨ao, b, off, cap, hv, _⟩ := h
  exact ⟨ao, cap, hv⟩
theorem came_cell {w : World} {ao : Option Addr} {b off cap : Nat} {l : List Int} (h : Came w 1 ao b off l.length cap (l.map (Value.int .i64))) (j : Nat) (hj : j < l.length) : w.cell? ⟨b, off + j, none⟩ = some (.int .i64 (l.getD j 0)) :=
  h.olds j _ (map_getD l j hj)
theorem Win.at_ {w : World} {B : Nat} {v : Value} {l : List Int} (h : Win w B v l) (hl : 0 < l.length) :
    ∃ b off cap, v = .slice (some ⟨b, off, none⟩) l.length cap ∧ b < w.heap.size ∧ B ≤ b ∧ ∀ j, j < l.length → w.cell? ⟨b, off + j, none⟩ = some (.int .i64 (l.getD j 0)) := by
  obtain ⟨ao, b, off, cap, hv, hc, hB⟩ := h
  have hle := hc.le
  have hcap : 0 < cap := by omega
  rw [hc.addr hcap] at hv
  exact ⟨b, off, cap, hv, hc.lt hcap, hB hcap, fun j hj => came_cell hc j hj⟩
/-- Three words ahead: where they lie, and what is left when they are taken away. -/
theorem Win.three {w : World} {B : Nat} {v : Value} {x y z : Int} {l : List Int} (h : Win w B v (x :: y :: z :: l)) :
    ∃ b off cap, v = .slice (some ⟨b, off, none⟩) (l.length + 3) cap ∧ b < w.heap.size ∧ l.length + 3 ≤ cap ∧
      w.cell? ⟨b, off, none⟩ = some (.int .i64 x) ∧ w.cell? ⟨b, off + 1, none⟩ = some (.int .i64 y) ∧ w.cell? ⟨b, off + 2, none⟩ = some (.int .i64 z) ∧
      (cap = 3 → Win w B (.slice (some ⟨b, off, none⟩) l.length 0) l) ∧ (¬ cap = 3 → Win w B (.slice (some ⟨b, off + 3, none⟩) l.length (cap - 3)) l) := by
  obtain ⟨ao, b, off, cap, hv, hc, hB⟩ := h
  have hle := hc.le
  simp only [List.length_cons] at hle hv
  have hcap : 0 < cap := by omega
  rw [hc.addr hcap] at hv
  have hlt := hc.lt hcap
  have c0 := came_cell hc 0 (by simp)
  have c1 := came_cell hc 1 (by simp)
  have c2 := came_cell hc 2 (by simp)
  refine ⟨b, off, cap, hv, hlt, by omega, c0, c1, c2, fun h3 => ?_, fun h3 => ?_⟩
  · have : l.length = 0 := by omega
    obtain rfl := List.length_eq_zero_iff.mp this
    exact Win.empty w B _
  · refine ⟨some ⟨b, off + 3, none⟩, b, off + 3, cap - 3, rfl, ⟨by omega, fun _ => rfl, fun _ => hlt, by simp, fun j u hu => ?_, fun j hj => ?_⟩, fun _ => hB hcap⟩
    · have := hc.olds (j + 3) u (by simpa using hu)
      rwa [show off + (j + 3) = off + 3 + j by omega] at this
    · have := hc.spare j (by simp only [List.length_cons]; omega)
      simp only [List.length_cons] at this
      rwa [show off + (l.length + 1 + 1 + 1) * 1 + j = off + 3 + l.length * 1 + j by omega] at this
theorem win_src {P : Program} {w : World} {B : Nat} {v : Value} {l : List Int} {tx e' : TypeId} (hk : P.underlying tx = some (.slice e')) (h : Win w B v l) : Src P 1 tx v l.length (l.map (Value.int .i64)) w := by
  obtain ⟨ao, b, off, cap, rfl, hc, _⟩ := h
  have hle := hc.le
  rcases Nat.eq_zero_or_pos l.length with h0 | h0
  · obtain rfl := List.length_eq_zero_iff.mp h0
    cases ao with
    | none => exact Src.ofNil w hk cap
    | some a => exact Src.ofSlice w hk a 0 cap [] rfl (fun j u h => by simp at h) (fun u h => by cases h)
  · have ha := hc.addr (by omega)
    subst ha
    refine Src.ofSlice w hk ⟨b, off, none⟩ l.length cap _ (by simp) (fun j u hu => ?_) (fun u hu => ?_)
    · rw [Addr.add_lit]; exact hc.olds j u hu
    · obtain ⟨x, _, rfl⟩ := List.mem_map.mp hu; rfl
theorem rd_src {P : Program} {w : World} {v : Value} {l : List Int} {tx e' : TypeId} (hk : P.underlying tx = some (.slice e')) (h : Rd w v l) : Src P 1 tx v l.length (l.map (Value.int .i64)) w := by
  rcases h with ⟨rfl, rfl⟩ | ⟨b, cap, rfl, _, hc⟩
  · exact Src.ofNil w hk 0
  · refine Src.ofSlice w hk ⟨b, 0, none⟩ l.length cap _ (by simp) (fun j u hu => ?_) (fun u hu => ?_)
    · have hj : j < l.length := by have := (List.getElem?_eq_some_iff.1 hu).1; simpa using this
      rw [map_getD l j hj] at hu
      rw [Addr.add_lit, Nat.zero_add, hc j hj]; exact hu
    · obtain ⟨x, _, rfl⟩ := List.mem_map.mp hu; rfl
theorem run_append_win {P : Program} {W : World} {B : Nat} {v : Value} {l : List Int} (hw : Win W B v l) (hB : B ≤ W.heap.size)
    (t tx ty e : TypeId) (i : TypeInfo) (z : Value) (bytes : Nat) (ht : P.underlying t = some (.slice e)) (hi : P.info? e = some i) (hz : i.zero = some z) (hsize : i.size = 1) (hby : i.bytes = bytes) (hzs : z.cells.size = 1)
    (x : Value) (m : List Int) (hs : Src P 1 tx x m.length (m.map (Value.int .i64)) W) (h63 : l.length + m.length ≤ maxLen) (hbytes : (l.length + m.length) * bytes ≤ 140737488355328) :
    ∃ v' W', (Builtin.append_ #[t, tx] ty #[v, x]).run P W = .ok v' W' ∧ Win W' B v' (l ++ m) ∧ Below B W W' := by
  obtain ⟨ao, b, off, cap, rfl, hc, hbB⟩ := hw
  have hle := hc.le
  have hs' : Src P i.size tx x m.length (m.map (Value.int .i64)) W := by rw [hsize]; exact hs
  have hsmall : l.length + m.length ≤ 9223372036854775807 := by simp only [maxLen] at h63; omega
  by_cases hfit : l.length + m.length ≤ cap
  · rcases Nat.eq_zero_or_pos cap with h0 | hcap
    · subst h0
      obtain rfl := List.length_eq_zero_iff.mp (show l.length = 0 by omega)
      obtain rfl := List.length_eq_zero_iff.mp (show m.length = 0 by simpa using hfit)
      exact ⟨_, _, run_append_nothing (P := P) W t tx ty e i ht hi ao 0 0 (Nat.le_refl _) x hs', Win.empty _ _ _, Below.refl _ _⟩
    · have hao := hc.addr hcap
      subst hao
      have hlt := hc.lt hcap
      have hsome : ∀ j, j < (m.map (Value.int .i64)).length → (W.cell? ⟨b, off + l.length * 1 + j, none⟩).isSome = true := fun j hj => (hc.spare j (by simp at hj; omega)).1
      have hrun := run_append_room_src (P := P) W t tx ty e i ht hi b off l.length cap x m.length _ hs' hfit (by rw [hsize]; exact hsome) (fun j hj => by rw [hsize]; exact (hc.spare j (by simp at hj; omega)).2)
      rw [hsize] at hrun
      refine ⟨_, _, hrun, ⟨some ⟨b, off, none⟩, b, off, cap, by rw [List.length_append], ⟨by rw [List.length_append]; exact hfit, fun _ => rfl, fun _ => ?_, by simp, fun j u hu => ?_, fun j hj => ?_⟩, fun _ => hbB hcap⟩, World.os_setCells _ _ _ _, tape_setCells _ _ _ _, World.output_setCells _ _ _ _, ?_, fun k hk => ?_⟩
      · exact Nat.lt_of_lt_of_le hlt (World.keptBut_setCells b (may := fun _ => True) _ _ W (fun _ _ => trivial)).size
      · rw [List.map_append] at hu
        by_cases hj : j < l.length
        · rw [World.cell?_setCells_out b _ _ _ _ (fun _ _ => Or.inl (by show off + j < off + l.length * 1; omega))]
          rw [List.getElem?_append_left (by simpa using hj)] at hu
          exact hc.olds j u hu
        · rw [List.getElem?_append_right (by simp; omega)] at hu
          have hjl := (List.getElem?_eq_some_iff.1 hu).1
          simp only [List.length_map] at hu hjl
          have := World.cell?_setCells_in b _ (off + l.length * 1) W hsome (j - l.length) (by simpa using hjl)
          rw [show off + l.length * 1 + (j - l.length) = off + j by omega] at this
          rw [this, ← hu, List.getElem?_eq_getElem]
      · rw [List.length_append] at hj ⊢
        rw [World.cell?_setCells_out b _ _ _ _ (fun _ _ => Or.inr (by show off + l.length * 1 + (m.map (Value.int .i64)).length ≤ off + (l.length + m.length) * 1 + j; simp; omega)), World.frozen?_setCells]
        have := hc.spare (m.length + j) (by omega)
        rwa [show off + l.length * 1 + (m.length + j) = off + (l.length + m.length) * 1 + j by omega] at this
      · exact (World.keptBut_setCells b (may := fun _ => True) _ _ W (fun _ _ => trivial)).size
      · have := hbB hcap
        exact World.heap_setCells_other W b _ _ (Nat.lt_of_lt_of_le hk hB) (by omega)
  · have hg : cap < l.length + m.length := by omega
    have hold : (Builtin.firstCells i.size l.length (.slice ao l.length cap)).run P W.drew = .ok (l.map (Value.int .i64)).toArray W.drew := by
      rcases Nat.eq_zero_or_pos cap with h0 | hcap
      · subst h0
        obtain rfl := List.length_eq_zero_iff.mp (show l.length = 0 by omega)
        cases ao with
        | none => exact run_firstCells_none W.drew i.size 0 0 0
        | some a' => exact run_firstCells_some W.drew i.size 0 a' 0 0 [] (by simp) (by intro _ _ h'; simp at h')
      · rw [hc.addr hcap]
        refine run_firstCells_some W.drew i.size l.length ⟨b, off, none⟩ l.length cap _ (by rw [hsize]; simp) (fun j u hu => ?_)
        rw [Addr.add_lit]
        exact hc.olds j u hu
    have hrun := run_append_grow_src (P := P) W t tx ty e i z ht hi hz ao l.length cap _ hold x m.length _ hs' hg (by omega) (growslice_fits hg (by rw [hby]; exact hbytes))
    have hge := grownCap_ge W (l.length + m.length) cap e
    obtain ⟨cc, hcc⟩ : ∃ cc, grownCap W (l.length + m.length) cap e = cc := ⟨_, rfl⟩
    rw [hcc] at hrun hge
    have hL : (l.map (Value.int .i64) ++ m.map (Value.int .i64)).length = l.length + m.length := by simp
    have hsz : ((l.map (Value.int .i64) ++ m.map (Value.int .i64)).toArray ++ Builtin.zeroCells z.cells (cc - (l.length + m.length))).size = cc := by
      rw [Array.size_append, List.size_toArray, hL, size_zeroCells, hzs]; omega
    refine ⟨_, _, hrun, ⟨some ⟨W.heap.size, 0, none⟩, W.heap.size, 0, cc, by rw [List.length_append], ⟨by rw [List.length_append]; exact hge, fun _ => rfl, fun _ => by simp, by simp, fun j u hu => ?_, fun j hj => ?_⟩, fun _ => hB⟩, ((Below.refl B W).drew).alloc (by simpa using hB) _⟩
    · rw [List.map_append] at hu
      have e1 := World.cell?_alloc_new W.drew ((l.map (Value.int .i64) ++ m.map (Value.int .i64)).toArray ++ Builtin.zeroCells z.cells (cc - (l.length + m.length))) e j
      rw [Nat.zero_add]
      refine Eq.trans e1 ?_
      rw [Array.getElem?_append_left (by rw [List.size_toArray]; exact (List.getElem?_eq_some_iff.1 hu).1), List.getElem?_toArray]
      exact hu
    · rw [List.length_append] at hj ⊢
      have e1 := World.cell?_alloc_new W.drew ((l.map (Value.int .i64) ++ m.map (Value.int .i64)).toArray ++ Builtin.zeroCells z.cells (cc - (l.length + m.length))) e (0 + (l.length + m.length) * 1 + j)
      refine ⟨?_, World.frozen?_alloc_new W.drew _ _ _⟩
      refine (congrArg Option.isSome e1).trans ?_
      rw [Array.getElem?_eq_getElem (by rw [hsz]; omega)]
      rfl
/-- .. for the walk. -/
theorem wpList_append_win {P : Program} (w : World) {ops : Array Oper} {rest : List Oper} {o : Oper} {a : Act} {Q : Exit → Act → World → Prop} (hgd : o.guard = none) (s x : Operand) (t tx : TypeId)
    (ho : o.op = .call { callee := .builtin .append, args := #[s, x], argTypes := #[t, tx] })
    (B : Nat) (e : TypeId) (i : TypeInfo) (z : Value) (bytes : Nat) (ht : P.underlying t = some (.slice e)) (hi : P.info? e = some i) (hz : i.zero = some z) (hsize : i.size = 1) (hby : i.bytes = bytes) (hzs : z.cells.size = 1)
    {v : Value} {l : List Int} (hv : a.eval s = v) (hw : Win w B v l) (hB : B ≤ w.heap.size)
    (xv : Value) (m : List Int) (hx : a.eval x = xv) (hs : Src P 1 tx xv m.length (m.map (Value.int .i64)) w) (h63 : l.length + m.length ≤ maxLen) (hbytes : (l.length + m.length) * bytes ≤ 140737488355328)
    (hK : ∀ v' w', Win w' B v' (l ++ m) → Below B w w' → wpList P ops Q rest (a.put o.dst v') w') : wpList P ops Q (o :: rest) a w := by
  refine wpList_plain hgd fun K hK' => ?_
  obtain ⟨v', w', hrun, r1, r2⟩ := run_append_win (P := P) hw hB t tx o.type e i z bytes ht hi hz hsize hby hzs xv m hs h63 hbytes
  unfold Oper.wp
  simp [execOp, ho, resolve, invoke, builtin, hv, hx, hrun, Result.andThen]
  exact hK' _ _ (hK v' w' r1 r2)
end Go.Proofs.Yteoalkgpdgoaeaa
