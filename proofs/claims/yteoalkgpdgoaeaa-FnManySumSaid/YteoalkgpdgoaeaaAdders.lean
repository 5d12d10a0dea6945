/-
  PLAIN LAWS OF WORDS, 4: carries, kinds, sums of many words; no program in sight. Conditions: each lemma names its own.
-/
import Derived.Test.YteoalkgpdgoaeaaWordLaws
namespace Bw
open Go

/-! ### carries -/
def kind (a b : Int) (k : Nat) : Int := bt a k + bt b k
def carry (a b c : Int) : Nat → Int
  | 0 => c
  | k + 1 => (kind a b k + carry a b c k) / 2
theorem kind_bd (a b : Int) (k : Nat) : 0 ≤ kind a b k ∧ kind a b k ≤ 2 := by
  have := bt_01 a k; have := bt_01 b k; unfold kind; omega
theorem carry_bd {a b c : Int} (h : 0 ≤ c ∧ c ≤ 1) (k : Nat) : 0 ≤ carry a b c k ∧ carry a b c k ≤ 1 := by
  induction k with
  | zero => exact h
  | succ k ih => have := kind_bd a b k; simp only [carry]; omega
theorem carry_rest {a b c : Int} (k : Nat) :
    ∃ s, a % pw k + b % pw k + c = s + carry a b c k * pw k ∧ (0 ≤ c ∧ c ≤ 1 → 0 ≤ s ∧ s < pw k) := by
  induction k with
  | zero => exact ⟨0, by simp [carry, pw_0], fun _ => by simp [pw_0]⟩
  | succ k ih =>
    obtain ⟨s, h1, h2⟩ := ih
    refine ⟨s + ((kind a b k + carry a b c k) % 2) * pw k, ?_, ?_⟩
    · have ha := emod_pw_succ a (k := (k : Int)) (by omega)
      have hb := emod_pw_succ b (k := (k : Int)) (by omega)
      have hp := pw_succ (k := (k : Int)) (by omega)
      have hd := Int.emod_add_mul_ediv (kind a b k + carry a b c k) 2
      simp only [carry]
      rw [show ((k + 1 : Nat) : Int) = (k : Int) + 1 by omega, ha, hb, hp]
      have hk : kind a b k = bt a k + bt b k := rfl
      generalize (kind a b k + carry a b c k) % 2 = r at *
      generalize (kind a b k + carry a b c k) / 2 = q at *
      grind
    · intro hc
      have := h2 hc
      have hp := pw_succ (k := (k : Int)) (by omega)
      rw [show ((k + 1 : Nat) : Int) = (k : Int) + 1 by omega, hp]
      rcases (show (kind a b k + carry a b c k) % 2 = 0 ∨ (kind a b k + carry a b c k) % 2 = 1 by omega) with h | h <;> rw [h] <;> omega
/-- The carry out of the lowest k bits. -/
theorem carry_div {a b c : Int} (hc : 0 ≤ c ∧ c ≤ 1) (k : Nat) : carry a b c k = (a % pw k + b % pw k + c) / pw k := by
  obtain ⟨s, h1, h2⟩ := carry_rest (a := a) (b := b) (c := c) k
  have hp := pw_pos k
  rw [h1, Int.add_mul_ediv_right _ _ (by omega), Int.ediv_eq_zero_of_lt (h2 hc).1 (h2 hc).2, Int.zero_add]
def kindsL (w a b : Int) : List Int := (List.range w.toNat).map (kind a b)
def carriesL (w a b c : Int) : List Int := (List.range (w.toNat + 1)).map (carry a b c)
theorem kindsL_len (w a b : Int) : (kindsL w a b).length = w.toNat := by simp [kindsL]
theorem carriesL_len (w a b c : Int) : (carriesL w a b c).length = w.toNat + 1 := by simp [carriesL]
theorem range_succ_map {α : Type} (f : Nat → α) (k : Nat) : (List.range (k + 1)).map f = (List.range k).map f ++ [f k] := by simp [List.range_succ]

/-! ### kinds put together -/
def vT (n : Int) : Bool := decide (0 ≤ n ∧ n ≤ 2)
def join (low high : Int) : Int := if vT low && vT high then (if high = 1 then low else high) else -1
theorem join_ok {x y : Int} (hx : 0 ≤ x ∧ x ≤ 2) (hy : 0 ≤ y ∧ y ≤ 2) : join x y = (if y = 1 then x else y) ∧ 0 ≤ join x y ∧ join x y ≤ 2 := by
  unfold join vT; simp only [hx, hy, and_self, decide_true, Bool.and_self, if_true]
  refine ⟨trivial, ?_⟩; split <;> omega
theorem join_assoc {x y z : Int} (hx : 0 ≤ x ∧ x ≤ 2) (hy : 0 ≤ y ∧ y ≤ 2) (hz : 0 ≤ z ∧ z ≤ 2) : join (join x y) z = join x (join y z) := by
  obtain ⟨e1, b1⟩ := join_ok hx hy
  obtain ⟨e2, b2⟩ := join_ok hy hz
  rw [(join_ok b1 hz).1, (join_ok hx b2).1, e1, e2]
  by_cases h1 : z = 1 <;> by_cases h2 : y = 1 <;> simp [h1, h2]
theorem join_neg {x y : Int} : join x y < 0 ↔ (vT x && vT y) = false := by
  unfold join
  by_cases h : (vT x && vT y) = true
  · have : (0 ≤ x ∧ x ≤ 2) ∧ (0 ≤ y ∧ y ≤ 2) := by unfold vT at h; simpa using h
    rw [if_pos h, h]; split <;> simp <;> omega
  · rw [if_neg h]; simp at h ⊢; exact h
/-- n kinds from lo on, put together. -/
def run (f : Nat → Int) (lo : Nat) : Nat → Int
  | 0 => 1
  | n + 1 => join (run f lo n) (f (lo + n))
theorem run_bd {f : Nat → Int} (hf : ∀ i, 0 ≤ f i ∧ f i ≤ 2) (lo n : Nat) : 0 ≤ run f lo n ∧ run f lo n ≤ 2 := by
  induction n with
  | zero => simp [run]
  | succ n ih => exact (join_ok ih (hf _)).2
theorem join_one {x : Int} (hx : 0 ≤ x ∧ x ≤ 2) : join x 1 = x ∧ join 1 x = x := by
  constructor
  · rw [(join_ok hx (by omega)).1, if_pos rfl]
  · rw [(join_ok (by omega) hx).1]; split <;> omega
theorem run_add {f : Nat → Int} (hf : ∀ i, 0 ≤ f i ∧ f i ≤ 2) (lo n m : Nat) : run f lo (n + m) = join (run f lo n) (run f (lo + n) m) := by
  induction m with
  | zero => simp only [Nat.add_zero, run]; exact (join_one (run_bd hf _ _)).1.symm
  | succ m ih =>
    show join (run f lo (n + m)) (f (lo + (n + m))) = join (run f lo n) (join (run f (lo + n) m) (f (lo + n + m)))
    rw [ih, ← join_assoc (run_bd hf _ _) (run_bd hf _ _) (hf _), Nat.add_assoc]
/-- The list behind the rounds up to 'reach': at k the kinds of the last 'reach' places up to k. -/
def reachL (f : Nat → Int) (n reach : Nat) : List Int := (List.range n).map fun k => run f (k + 1 - reach) (min reach (k + 1))
def stepL (l : List Int) (reach : Nat) : List Int := (List.range l.length).map fun k => if k < reach then l.getD k 0 else join (l.getD (k - reach) 0) (l.getD k 0)
theorem reachL_len (f : Nat → Int) (n r : Nat) : (reachL f n r).length = n := by simp [reachL]
theorem reachL_get (f : Nat → Int) (n r k : Nat) (h : k < n) : (reachL f n r).getD k 0 = run f (k + 1 - r) (min r (k + 1)) := by
  simp [reachL, List.getD, h]
theorem reach_one {f : Nat → Int} (hf : ∀ i, 0 ≤ f i ∧ f i ≤ 2) (n : Nat) : reachL f n 1 = (List.range n).map f := by
  unfold reachL
  apply List.map_congr_left
  intro k _
  rw [Nat.min_eq_left (by omega)]
  show join 1 (f (k + 1 - 1 + 0)) = f k
  rw [(join_one (hf _)).2]; congr 1
theorem reach_step {f : Nat → Int} (hf : ∀ i, 0 ≤ f i ∧ f i ≤ 2) (n r : Nat) (hr : 1 ≤ r) : stepL (reachL f n r) r = reachL f n (2 * r) := by
  have e : stepL (reachL f n r) r = (List.range n).map fun k => if k < r then (reachL f n r).getD k 0 else join ((reachL f n r).getD (k - r) 0) ((reachL f n r).getD k 0) := by
    unfold stepL; rw [reachL_len]
  rw [e]
  show _ = (List.range n).map fun k => run f (k + 1 - 2 * r) (min (2 * r) (k + 1))
  apply List.map_congr_left
  intro k hk
  have hk : k < n := by simpa using hk
  split
  · rename_i h
    rw [reachL_get _ _ _ _ hk, Nat.min_eq_right (by omega), Nat.min_eq_right (by omega)]
    congr 1; omega
  · rename_i h
    rw [reachL_get _ _ _ _ hk, reachL_get _ _ _ _ (by omega), Nat.min_eq_left (a := r) (b := k + 1) (by omega)]
    have h1 : k + 1 - r = (k - r + 1 - r) + min r (k - r + 1) := by omega
    rw [h1, ← run_add hf]
    congr 1 <;> omega
/-- The kinds up to k tell the carry out of bit k. -/
theorem run_carry (a b c : Int) (hc : 0 ≤ c ∧ c ≤ 1) (k : Nat) : carry a b c k = if run (kind a b) 0 k = 2 ∨ (run (kind a b) 0 k = 1 ∧ c = 1) then 1 else 0 := by
  induction k with
  | zero =>
    simp only [carry, run]
    rcases (show c = 0 ∨ c = 1 by omega) with h | h <;> subst h <;> decide
  | succ k ih =>
    have hb := run_bd (kind_bd a b) 0 k
    have hk := kind_bd a b k
    simp only [carry, run, Nat.zero_add]
    rw [(join_ok hb hk).1, ih]
    by_cases h1 : kind a b k = 1
    · rw [if_pos h1, h1]; split <;> omega
    · rw [if_neg h1]
      split
      · rcases (show kind a b k = 0 ∨ kind a b k = 2 by omega) with h | h <;> rw [h] <;> simp
      · rcases (show kind a b k = 0 ∨ kind a b k = 2 by omega) with h | h <;> rw [h] <;> simp
def told (c kd : Int) : Int := if kd = 2 ∨ (kd = 1 ∧ c = 1) then 1 else 0
def fastL (c : Int) (l : List Int) : List Int := c :: l.map (told c)
theorem fast_carries {a b c : Int} (hc : 0 ≤ c ∧ c ≤ 1) (n r : Nat) (h : n ≤ r) : fastL c (reachL (kind a b) n r) = (List.range (n + 1)).map (carry a b c) := by
  rw [List.range_succ_eq_map, List.map_cons, List.map_map]
  unfold fastL reachL
  rw [List.map_map]
  congr 1
  apply List.map_congr_left
  intro k hk
  have hk : k < n := by simpa using hk
  simp only [Function.comp]
  show told c (run _ (k + 1 - r) (min r (k + 1))) = carry a b c (k + 1)
  rw [Nat.min_eq_right (by omega), show k + 1 - r = 0 by omega, run_carry a b c hc]; rfl

/-! ### the sum that carries make -/
def sumTo (f : Nat → Int) : Nat → Int
  | 0 => 0
  | k + 1 => sumTo f k + f k * pw k
theorem sumTo_congr {f g : Nat → Int} (n : Nat) (h : ∀ i, i < n → f i = g i) : sumTo f n = sumTo g n := by
  induction n with
  | zero => rfl
  | succ n ih => simp only [sumTo]; rw [ih fun i hi => h i (by omega), h n (by omega)]
theorem sumTo_bd {f : Nat → Int} (n : Nat) (h : ∀ i, i < n → 0 ≤ f i ∧ f i ≤ 1) : 0 ≤ sumTo f n ∧ sumTo f n < pw n := by
  induction n with
  | zero => simp [sumTo, pw_0]
  | succ n ih =>
    have := ih fun i hi => h i (by omega)
    have hp := pw_pos n
    rw [show ((n + 1 : Nat) : Int) = (n : Int) + 1 by omega, pw_succ (by omega)]
    simp only [sumTo]
    rcases (show f n = 0 ∨ f n = 1 by have := h n (by omega); omega) with e | e <;> rw [e] <;> omega
theorem sumTo_bt (x : Int) (n : Nat) : sumTo (fun k => bt x k) n = x % pw n := by
  induction n with
  | zero => simp [sumTo, pw_0]
  | succ n ih => simp only [sumTo]; rw [ih, show ((n + 1 : Nat) : Int) = (n : Int) + 1 by omega, emod_pw_succ _ (by omega)]
theorem bt_sumTo {f : Nat → Int} (n : Nat) (h : ∀ i, i < n → 0 ≤ f i ∧ f i ≤ 1) (k : Nat) (hk : k < n) : bt (sumTo f n) k = f k := by
  induction n with
  | zero => omega
  | succ n ih =>
    simp only [sumTo]
    have hb := sumTo_bd n fun i hi => h i (by omega)
    rw [Int.add_comm]
    by_cases hn : k < n
    · rw [bt_low hn]; exact ih (fun i hi => h i (by omega)) hn
    · obtain rfl : k = n := by omega
      have := bt_high (h := f k) (l := sumTo f k) (n := k) 0 hb.1 hb.2
      simp only [Nat.add_zero] at this
      rw [this]; unfold bt; rw [show ((0 : Nat) : Int) = 0 by rfl, pw_0]
      have := h k (by omega)
      omega
theorem bt_xor (x y : Int) (_hx : 0 ≤ x) (_hy : 0 ≤ y) (k : Nat) : bt (xorI x y) k = (bt x k + bt y k) % 2 := by
  obtain ⟨a, rfl⟩ : ∃ a : Nat, x = a := ⟨x.toNat, by omega⟩
  obtain ⟨b, rfl⟩ : ∃ b : Nat, y = b := ⟨y.toNat, by omega⟩
  unfold xorI
  rw [bt_nat, bt_nat, bt_nat, Int.toNat_natCast, Int.toNat_natCast, Nat.testBit_xor]
  cases a.testBit k <;> cases b.testBit k <;> rfl
theorem xor_sumTo {x y : Int} (n : Nat) (hx : 0 ≤ x) (hy : 0 ≤ y) (hx1 : x < pw n) (hy1 : y < pw n) : xorI x y = sumTo (fun k => (bt x k + bt y k) % 2) n := by
  have hb := xorI_lt hx hy hx1 hy1
  rw [← emod_small hb.1 hb.2, ← sumTo_bt]
  exact sumTo_congr n fun i _ => bt_xor x y hx hy i
def csum (w a b : Int) (f : Nat → Int) : Int := sumTo (fun k => (kind a b k + f k) % 2) w.toNat
theorem csum_xor {w a b : Int} {f : Nat → Int} (h : v2 w a b = true) (hf : ∀ i, i < w.toNat → 0 ≤ f i ∧ f i ≤ 1) : xorI (xorI a b) (sumTo f w.toNat) = csum w a b f := by
  obtain ⟨ha, hb⟩ := v2_iff.mp h
  obtain ⟨h1, h2, h3, h4⟩ := vX_iff.mp ha
  obtain ⟨_, _, h5, h6⟩ := vX_iff.mp hb
  have ew : ((w.toNat : Nat) : Int) = w := by omega
  have hx := xorI_lt h3 h5 h4 h6
  have hs := sumTo_bd w.toNat hf
  rw [xor_sumTo w.toNat hx.1 hs.1 (by rw [ew]; exact hx.2) hs.2]
  refine sumTo_congr _ fun i hi => ?_
  rw [bt_xor a b h3 h5, bt_sumTo _ hf i hi]
  show _ = (bt a i + bt b i + f i) % 2
  omega
theorem xor_step {X c : Int} {f : Nat → Int} (k : Nat) (_hX : 0 ≤ X) (hf : ∀ i, i < k + 1 → 0 ≤ f i ∧ f i ≤ 1) (hc : f k = c) :
    xorI (xorI X (sumTo f k)) (c * pw k) = xorI X (sumTo f (k + 1)) := by
  have hb := sumTo_bd k fun i hi => hf i (by omega)
  have hp := pw_pos k
  have hck := hf k (by omega)
  have hd := or_disj (a := c) (b := sumTo f k) (j := k) (by omega) hb.1 hb.2
  have hcp : 0 ≤ c * pw k := Int.mul_nonneg (by omega) (by omega)
  have ho := or_and (c * pw k) (sumTo f k) hcp hb.1
  have hx := xor_and (c * pw k) (sumTo f k) hcp hb.1
  have e : sumTo f (k + 1) = xorI (sumTo f k) (c * pw k) := by
    have : xorI (sumTo f k) (c * pw k) = xorI (c * pw k) (sumTo f k) := by unfold xorI; rw [Nat.xor_comm]
    rw [this]; simp only [sumTo]; rw [hc]; omega
  rw [e]; unfold xorI
  simp only [Int.toNat_natCast, Nat.xor_assoc]
theorem csum_carries {w a b c : Int} (h : v2 w a b = true) : csum w a b (carry a b c) + carry a b c w.toNat * pw w = a + b + c := by
  obtain ⟨ha, hb⟩ := v2_iff.mp h
  obtain ⟨h1, h2, h3, h4⟩ := vX_iff.mp ha
  obtain ⟨_, _, h5, h6⟩ := vX_iff.mp hb
  have ew : ((w.toNat : Nat) : Int) = w := by omega
  have key : ∀ n : Nat, sumTo (fun k => (kind a b k + carry a b c k) % 2) n + carry a b c n * pw n = a % pw n + b % pw n + c := by
    intro n
    induction n with
    | zero => simp [sumTo, carry, pw_0]
    | succ n ih =>
      have ha := emod_pw_succ a (k := (n : Int)) (by omega)
      have hb := emod_pw_succ b (k := (n : Int)) (by omega)
      have hp := pw_succ (k := (n : Int)) (by omega)
      have hd := Int.emod_add_mul_ediv (kind a b n + carry a b c n) 2
      simp only [sumTo, carry]
      rw [show ((n + 1 : Nat) : Int) = (n : Int) + 1 by omega, ha, hb, hp]
      have hk : kind a b n = bt a n + bt b n := rfl
      generalize (kind a b n + carry a b c n) % 2 = r at *
      generalize (kind a b n + carry a b c n) / 2 = q at *
      grind
  have := key w.toNat
  rw [ew, emod_small h3 h4, emod_small h5 h6] at this
  exact this
theorem csum_bd {w a b : Int} {f : Nat → Int} (h : vW w = true) : vX w (csum w a b f) = true := by
  have hw := vW_iff.mp h
  have ew : ((w.toNat : Nat) : Int) = w := by omega
  have := sumTo_bd (f := fun k => (kind a b k + f k) % 2) w.toNat fun i _ => by omega
  rw [ew] at this
  exact vX_iff.mpr ⟨hw.1, hw.2, this.1, this.2⟩
theorem csum_add {w a b : Int} (h : v2 w a b = true) : csum w a b (carry a b 0) = wadd w a b := by
  obtain ⟨ha, hb⟩ := v2_iff.mp h
  have h1 := csum_carries h (c := 0)
  obtain ⟨_, _, h3, h4⟩ := vX_iff.mp (csum_bd (a := a) (b := b) (f := carry a b 0) (vX_vW ha))
  rw [wadd_eq h, ← emod_small h3 h4]
  exact cong (-carry a b 0 w.toNat) (by grind)
theorem csum_zero {w a b : Int} (h : v2 w a b = true) : csum w a b (fun _ => 0) = wxor w a b := by
  obtain ⟨ha, hb⟩ := v2_iff.mp h
  have h0 : sumTo (fun _ => 0) w.toNat = 0 := by
    generalize w.toNat = n
    induction n with
    | zero => rfl
    | succ n ih => simp only [sumTo]; omega
  have := csum_xor (f := fun _ => 0) h (fun _ _ => by omega)
  rw [h0] at this
  rw [← this, wxor_eq h]; unfold xorI; simp

/-! ### three words are two -/
def t3x (a b c : Int) : Int := xorI (xorI a b) c
def maj (a b c : Int) : Int := orI (orI (andI a b) (andI a c)) (andI b c)
def t3y (w a b c : Int) : Int := (maj a b c * 2) % pw w
theorem nat_three (n : Nat) : ∀ a b c : Nat, a ≤ n → b ≤ n → c ≤ n → (a ^^^ b ^^^ c) + 2 * ((a &&& b ||| a &&& c) ||| b &&& c) = a + b + c := by
  induction n using Nat.strongRecOn with
  | _ n ih =>
    intro a b c ha hb hc
    by_cases h0 : n = 0
    · subst h0
      obtain rfl : a = 0 := by omega
      obtain rfl : b = 0 := by omega
      obtain rfl : c = 0 := by omega
      rfl
    · have hr := ih (n / 2) (by omega) (a / 2) (b / 2) (c / 2) (by omega) (by omega) (by omega)
      simp only [← nat_and_div, ← Nat.or_div_two, ← Nat.xor_div_two] at hr
      have m1 := (nat_bit a b).2.2
      have m2 := (nat_bit (a ^^^ b) c).2.2
      have m3 := (nat_bit a b).1
      have m4 := (nat_bit a c).1
      have m5 := (nat_bit b c).1
      have m6 := (nat_bit (a &&& b) (a &&& c)).2.1
      have m7 := (nat_bit (a &&& b ||| a &&& c) (b &&& c)).2.1
      rw [m3, m4] at m6
      rw [m6, m5] at m7
      rcases Nat.mod_two_eq_zero_or_one a with ha | ha <;> rcases Nat.mod_two_eq_zero_or_one b with hb | hb <;> rcases Nat.mod_two_eq_zero_or_one c with hc | hc <;>
        rw [ha, hb, hc] at m7 <;> simp only [Nat.mul_zero, Nat.mul_one, Nat.add_zero, Nat.zero_add, Nat.sub_zero, Nat.add_sub_cancel] at m7 <;> omega
theorem three_sum {a b c : Int} (ha : 0 ≤ a) (hb : 0 ≤ b) (hc : 0 ≤ c) : t3x a b c + 2 * maj a b c = a + b + c := by
  have := nat_three (a.toNat + b.toNat + c.toNat) a.toNat b.toNat c.toNat (by omega) (by omega) (by omega)
  unfold t3x maj xorI orI andI
  simp only [Int.toNat_natCast]
  omega
theorem t3x_turn (a b c : Int) : t3x c a b = t3x a b c := by
  unfold t3x xorI; simp only [Int.toNat_natCast]
  rw [Nat.xor_assoc, Nat.xor_comm]
theorem maj_turn (a b c : Int) : maj c a b = maj a b c := by
  unfold maj orI andI; simp only [Int.toNat_natCast]
  congr 1
  apply Nat.eq_of_testBit_eq
  intro i
  simp only [Nat.testBit_or, Nat.testBit_and]
  cases a.toNat.testBit i <;> cases b.toNat.testBit i <;> cases c.toNat.testBit i <;> rfl
theorem maj_bd {w a b c : Int} (ha : vX w a = true) (hb : vX w b = true) (hc : vX w c = true) : vX w (maj a b c) = true := by
  have h1 := vX_and (v2_mk ha hb)
  have h2 := vX_and (v2_mk ha hc)
  have h3 := vX_and (v2_mk hb hc)
  exact vX_or (v2_mk (vX_or (v2_mk h1 h2)) h3)
theorem t3x_bd {w a b c : Int} (ha : vX w a = true) (hb : vX w b = true) (hc : vX w c = true) : vX w (t3x a b c) = true := vX_xor (v2_mk (vX_xor (v2_mk ha hb)) hc)
theorem t3y_bd {w : Int} (a b c : Int) (h : vW w = true) : vX w (t3y w a b c) = true := vX_mod h _
theorem three_mod {w a b c : Int} (ha : vX w a = true) (hb : vX w b = true) (hc : vX w c = true) : ∃ q, t3x a b c + t3y w a b c = a + b + c + pw w * q := by
  obtain ⟨q, hq⟩ := mod_q (maj a b c * 2) (pw w)
  have := three_sum (vX_iff.mp ha).2.2.1 (vX_iff.mp hb).2.2.1 (vX_iff.mp hc).2.2.1
  exact ⟨q, by unfold t3y; rw [hq]; omega⟩
theorem three_add {w a b c : Int} (ha : vX w a = true) (hb : vX w b = true) (hc : vX w c = true) : wadd w (t3x a b c) (t3y w a b c) = wadd w (wadd w a b) c := by
  have hab := v2_mk ha hb
  rw [wadd_eq (v2_mk (t3x_bd ha hb hc) (t3y_bd a b c (vX_vW ha))), wadd_eq (v2_mk (wadd_ok hab) hc), wadd_eq hab, Int.emod_add_emod]
  obtain ⟨q, hq⟩ := three_mod ha hb hc
  exact cong q hq

/-! ### many words -/
def isum (l : List Int) : Int := l.foldr (· + ·) 0
theorem isum_append (l m : List Int) : isum (l ++ m) = isum l + isum m := by
  induction l with
  | nil => simp [isum]
  | cons x l ih => simp only [isum, List.cons_append, List.foldr_cons] at ih ⊢; omega
theorem isum_reverse (l : List Int) : isum l.reverse = isum l := by
  induction l with
  | nil => rfl
  | cons x l ih => rw [List.reverse_cons, isum_append, ih]; simp only [isum, List.foldr_cons, List.foldr_nil]; omega
theorem isum_cons (x : Int) (l : List Int) : isum (x :: l) = x + isum l := rfl
def manySum (w : Int) (l : List Int) : Int := if vW w && (allX w l && decide (l.length ≤ 20)) then isum l % pw w else -1
/-- One round of taking three words away and putting two behind. -/
theorem many_step {w x y z : Int} {l : List Int} (h : allX w (x :: y :: z :: l) = true) :
    allX w (l ++ [t3x x y z, t3y w x y z]) = true ∧ isum (l ++ [t3x x y z, t3y w x y z]) % pw w = isum (x :: y :: z :: l) % pw w := by
  simp only [allX, List.all_cons, Bool.and_eq_true] at h
  obtain ⟨hx, hy, hz, hl⟩ := h
  refine ⟨?_, ?_⟩
  · simp only [allX, List.all_append, List.all_cons, List.all_nil, Bool.and_eq_true, Bool.and_true]
    exact ⟨hl, t3x_bd hx hy hz, t3y_bd _ _ _ (vX_vW hx)⟩
  · obtain ⟨q, hq⟩ := three_mod hx hy hz
    rw [isum_append]; simp only [isum_cons]
    refine cong q ?_
    simp only [isum, List.foldr_nil] at *
    omega
theorem many_nonneg {w : Int} {l : List Int} : manySum w l < 0 ↔ (vW w && (allX w l && decide (l.length ≤ 20))) = false := by
  unfold manySum
  by_cases h : (vW w && (allX w l && decide (l.length ≤ 20))) = true
  · have := Int.emod_nonneg (isum l) (b := pw w) (by have := pw_pos w; omega)
    rw [if_pos h, h]; simp; omega
  · rw [if_neg h]; simp only [Bool.not_eq_true] at h; simp [h]

/-! ### less, and sums that fit -/
def fits (w a b : Int) : Bool := v2 w a b && decide (sg w ((a + b) % pw w) = sg w a + sg w b)
def less (w a b : Int) : Bool := v2 w a b && decide (a < b)
def lessS (w a b : Int) : Bool := v2 w a b && decide (sg w a < sg w b)
theorem less_carry {w a b : Int} (h : v2 w a b = true) : carry a (pw w - 1 - b) 1 w.toNat = 0 ↔ a < b := by
  obtain ⟨ha, hb⟩ := v2_iff.mp h
  obtain ⟨h1, h2, h3, h4⟩ := vX_iff.mp ha
  obtain ⟨_, _, h5, h6⟩ := vX_iff.mp hb
  have ew : ((w.toNat : Nat) : Int) = w := by omega
  rw [carry_div (by omega), ew, emod_small h3 h4, emod_small (by omega) (by omega)]
  have hp := pw_pos w
  constructor
  · intro h0
    have := Int.emod_add_mul_ediv (a + (pw w - 1 - b) + 1) (pw w)
    rw [h0] at this
    have := Int.emod_lt_of_pos (a + (pw w - 1 - b) + 1) (b := pw w) (by omega)
    omega
  · intro hlt
    exact Int.ediv_eq_zero_of_lt (by omega) (by omega)
theorem lessS_top {w a b : Int} (h : v2 w a b = true) :
    lessS w a b = if bt a (w - 1) ≠ bt b (w - 1) then decide (bt a (w - 1) = 1) else decide (bt ((a - b) % pw w) (w - 1) = 1) := by
  obtain ⟨ha, hb⟩ := v2_iff.mp h
  obtain ⟨h1, h2, h3, h4⟩ := vX_iff.mp ha
  obtain ⟨_, _, h5, h6⟩ := vX_iff.mp hb
  obtain ⟨_, _, h7, h8⟩ := vX_iff.mp (vX_mod (vX_vW ha) (a - b))
  have hp := pw_pred h1
  have hpos := pw_pos (w - 1)
  unfold lessS
  rw [h, bt_top h1 h3 h4, bt_top h1 h5 h6, bt_top h1 h7 h8, Bool.true_and]
  have hm : (a - b) % pw w = if b ≤ a then a - b else a - b + pw w := by
    split
    · exact emod_small (by omega) (by omega)
    · rw [← Int.add_emod_right, emod_small (by omega) (by omega)]
  rw [hm]
  unfold sg
  by_cases c1 : pw (w - 1) ≤ a <;> by_cases c2 : pw (w - 1) ≤ b <;> by_cases c3 : b ≤ a <;> simp only [c1, c2, c3, if_true, if_false] <;>
    (first
      | (simp; omega)
      | (by_cases c4 : pw (w - 1) ≤ a - b <;> simp [c4] <;> omega)
      | (by_cases c4 : pw (w - 1) ≤ a - b + pw w <;> simp [c4] <;> omega))
/-- The highest bit changed: both numbers are moved by half of the range. -/
theorem flip_top {w x : Int} (h : vX w x = true) : vX w (xorI x (pw (w - 1))) = true ∧ xorI x (pw (w - 1)) = sg w x + pw (w - 1) := by
  obtain ⟨h1, h2, h3, h4⟩ := vX_iff.mp h
  have hp := pw_pred h1
  have hpos := pw_pos (w - 1)
  have key : xorI x (pw (w - 1)) = sg w x + pw (w - 1) := by
    unfold sg
    by_cases hx : pw (w - 1) ≤ x
    · rw [if_pos hx]
      have hd := or_disj (a := 1) (b := x - pw (w - 1)) (j := w - 1) (by omega) (by omega) (by omega)
      rw [Int.one_mul] at hd
      have ho := or_and (pw (w - 1)) (x - pw (w - 1)) (by omega) (by omega)
      have hxx := xor_and (pw (w - 1)) (x - pw (w - 1)) (by omega) (by omega)
      have e : x = xorI (pw (w - 1)) (x - pw (w - 1)) := by omega
      have : xorI x (pw (w - 1)) = x - pw (w - 1) := by
        rw [e]; unfold xorI
        rw [Int.toNat_natCast, Nat.xor_comm, ← Nat.xor_assoc, Nat.xor_self, Nat.zero_xor]
        have e2 : xorI (pw (w - 1)) (x - pw (w - 1)) = ((pw (w - 1)).toNat ^^^ (x - pw (w - 1)).toNat : Nat) := rfl
        rw [← e2, ← e]; omega
      omega
    · rw [if_neg hx]
      have hd := or_disj (a := 1) (b := x) (j := w - 1) (by omega) (by omega) (by omega)
      rw [Int.one_mul] at hd
      have ho := or_and (pw (w - 1)) x (by omega) (by omega)
      have hxx := xor_and (pw (w - 1)) x (by omega) (by omega)
      have : xorI x (pw (w - 1)) = xorI (pw (w - 1)) x := by unfold xorI; rw [Nat.xor_comm]
      omega
  have hb := sg_bd h1 h3 h4
  exact ⟨vX_iff.mpr ⟨h1, h2, by omega, by omega⟩, key⟩
theorem less_flip {w a b : Int} (h : v2 w a b = true) : less w (wxor w a (pw (w - 1))) (wxor w b (pw (w - 1))) = lessS w a b := by
  obtain ⟨ha, hb⟩ := v2_iff.mp h
  obtain ⟨h1, h2, h3, h4⟩ := vX_iff.mp ha
  have hp := pw_pred h1
  have hpos := pw_pos (w - 1)
  have ht : vX w (pw (w - 1)) = true := vX_iff.mpr ⟨h1, h2, by omega, by omega⟩
  rw [wxor_eq (v2_mk ha ht), wxor_eq (v2_mk hb ht)]
  obtain ⟨a1, a2⟩ := flip_top ha
  obtain ⟨b1, b2⟩ := flip_top hb
  unfold less lessS
  rw [v2_mk a1 b1, h, a2, b2]
  simp only [Bool.true_and, decide_eq_decide]
  omega
theorem fits_top {w a b : Int} (h : v2 w a b = true) :
    (fits w a b = true ↔ (a / pw (w - 1) ≠ b / pw (w - 1) ∨ (a + b) % pw w / pw (w - 1) = a / pw (w - 1))) ∧
    (fits w a b = true ↔ carry a b 0 w.toNat = carry a b 0 (w - 1).toNat) := by
  obtain ⟨ha, hb⟩ := v2_iff.mp h
  obtain ⟨h1, h2, h3, h4⟩ := vX_iff.mp ha
  obtain ⟨_, _, h5, h6⟩ := vX_iff.mp hb
  have hp := pw_pred h1
  have hpos := pw_pos (w - 1)
  have ew : ((w.toNat : Nat) : Int) = w := by omega
  have ew1 : (((w - 1).toNat : Nat) : Int) = w - 1 := by omega
  have top : ∀ x, 0 ≤ x → x < pw w → x / pw (w - 1) = if pw (w - 1) ≤ x then 1 else 0 := by
    intro x hx0 hx1
    split
    · exact ((Int.ediv_emod_unique (a := x) (b := pw (w - 1)) (r := x - pw (w - 1)) (q := 1) (by omega)).mpr ⟨by omega, by omega, by omega⟩).1
    · exact Int.ediv_eq_zero_of_lt hx0 (by omega)
  have low : ∀ x, 0 ≤ x → x < pw w → x % pw (w - 1) = if pw (w - 1) ≤ x then x - pw (w - 1) else x := by
    intro x hx0 hx1
    have := Int.emod_add_mul_ediv x (pw (w - 1))
    rw [top x hx0 hx1] at this
    split <;> simp_all <;> omega
  have hm : (a + b) % pw w = if a + b < pw w then a + b else a + b - pw w := by
    split
    · exact emod_small (by omega) (by omega)
    · rw [← Int.sub_emod_right, emod_small (by omega) (by omega)]
  have hq : (a + b + 0) / pw w = if a + b < pw w then 0 else 1 := by
    split
    · exact Int.ediv_eq_zero_of_lt (by omega) (by omega)
    · exact ((Int.ediv_emod_unique (a := a + b + 0) (b := pw w) (r := a + b - pw w) (q := 1) (by omega)).mpr ⟨by omega, by omega, by omega⟩).1
  have hm0 : 0 ≤ (a + b) % pw w := Int.emod_nonneg _ (by omega)
  have hm1 : (a + b) % pw w < pw w := Int.emod_lt_of_pos _ (by omega)
  have hq1 : (a % pw (w - 1) + b % pw (w - 1) + 0) / pw (w - 1) = if a % pw (w - 1) + b % pw (w - 1) < pw (w - 1) then 0 else 1 := by
    have := Int.emod_nonneg a (b := pw (w - 1)) (by omega)
    have := Int.emod_nonneg b (b := pw (w - 1)) (by omega)
    have := Int.emod_lt_of_pos a (b := pw (w - 1)) (by omega)
    have := Int.emod_lt_of_pos b (b := pw (w - 1)) (by omega)
    split
    · exact Int.ediv_eq_zero_of_lt (by omega) (by omega)
    · exact ((Int.ediv_emod_unique (a := a % pw (w - 1) + b % pw (w - 1) + 0) (b := pw (w - 1)) (r := a % pw (w - 1) + b % pw (w - 1) - pw (w - 1)) (q := 1) (by omega)).mpr ⟨by omega, by omega, by omega⟩).1
  rw [carry_div (by omega), carry_div (by omega), ew, ew1, emod_small h3 h4, emod_small h5 h6, hq, hq1, low a h3 h4, low b h5 h6, top a h3 h4, top b h5 h6, top _ hm0 hm1, hm]
  unfold fits
  rw [h, Bool.true_and, decide_eq_true_eq, hm]
  unfold sg
  by_cases c1 : pw (w - 1) ≤ a <;> by_cases c2 : pw (w - 1) ≤ b <;> by_cases c3 : a + b < pw w <;> simp only [c1, c2, c3, if_true, if_false] <;> constructor <;> (try (split <;> (try split))) <;> omega
end Bw
