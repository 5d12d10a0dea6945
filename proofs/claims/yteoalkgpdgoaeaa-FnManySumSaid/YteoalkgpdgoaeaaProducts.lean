/-
  PLAIN LAWS OF WORDS, 5: products and divisions; no program in sight. Conditions: each lemma names its own.
-/
import Derived.Test.YteoalkgpdgoaeaaWords
namespace Bw
open Go

/-! ### products -/
def wideHi (w a b : Int) : Int := if v2 w a b then a * b / pw w else -1
def wideLo (w a b : Int) : Int := if v2 w a b then a * b % pw w else -1
def vH (w a b : Int) : Bool := v2 w a b && decide (w % 2 = 0)
def halfHi (w a b : Int) : Int := if vH w a b then a * b / pw w else -1
def halfLo (w a b : Int) : Int := if vH w a b then a * b % pw w else -1
def highS (w a b : Int) : Int := if v2 w a b then (sg w a * sg w b / pw w) % pw w else -1
theorem prod_bd {w a b : Int} (h : v2 w a b = true) : 0 ≤ a * b ∧ a * b < 16777216 := by
  obtain ⟨ha, hb⟩ := v2_iff.mp h
  obtain ⟨h1, h2, h3, h4⟩ := vX_iff.mp ha
  obtain ⟨_, _, h5, h6⟩ := vX_iff.mp hb
  have := pw_le12 h2
  have h7 : a * b ≤ 4095 * b := Int.mul_le_mul_of_nonneg_right (by omega) h5
  exact ⟨Int.mul_nonneg h3 h5, by omega⟩
theorem sprod_bd {w a b : Int} (ha : vX w a = true) (hb : vX w b = true) : -4194304 ≤ sg w a * sg w b ∧ sg w a * sg w b ≤ 4194304 := by
  have h1 := sg_bd12 ha
  have h2 := sg_bd12 hb
  generalize sg w a = x at *
  generalize sg w b = y at *
  have p1 : 0 ≤ (2048 - x) * (2048 + y) := Int.mul_nonneg (by omega) (by omega)
  have p2 : 0 ≤ (2048 + x) * (2048 - y) := Int.mul_nonneg (by omega) (by omega)
  have p3 : 0 ≤ (2048 - x) * (2048 - y) := Int.mul_nonneg (by omega) (by omega)
  have p4 : 0 ≤ (2048 + x) * (2048 + y) := Int.mul_nonneg (by omega) (by omega)
  constructor
  · grind
  · grind
/-- A word of an even width is its two halves. -/
theorem halves {h x : Int} (hh : 0 ≤ h) (h0 : 0 ≤ x) (h1 : x < pw (2 * h)) :
    x = x / pw h * pw h + x % pw h ∧ 0 ≤ x / pw h ∧ x / pw h < pw h ∧ 0 ≤ x % pw h ∧ x % pw h < pw h ∧ pw (2 * h) = pw h * pw h := by
  have hp := pw_pos h
  have e : pw (2 * h) = pw h * pw h := by rw [← pw_add hh hh]; congr 1; omega
  have := Int.emod_add_mul_ediv x (pw h)
  exact ⟨by grind, div_nonneg h0, Int.ediv_lt_of_lt_mul (by omega) (by rw [← e]; exact h1), Int.emod_nonneg _ (by omega), Int.emod_lt_of_pos _ (by omega), e⟩
theorem half_sum {h a b : Int} (hh : 0 ≤ h) (a0 : 0 ≤ a) (a1 : a < pw (2 * h)) (b0 : 0 ≤ b) (b1 : b < pw (2 * h)) :
    a % pw h * (b % pw h) + (a % pw h * (b / pw h) + a / pw h * (b % pw h)) * pw h + a / pw h * (b / pw h) * pw (2 * h) = a * b := by
  obtain ⟨ea, _, _, _, _, ep⟩ := halves hh a0 a1
  obtain ⟨eb, _, _, _, _, _⟩ := halves hh b0 b1
  rw [ep]
  generalize a / pw h = ah at *
  generalize a % pw h = al at *
  generalize b / pw h = bh at *
  generalize b % pw h = bl at *
  generalize pw h = H at *
  rw [ea, eb]; grind
/-- The reference's way: the four products, carried by hand. -/
theorem half_way {h a b : Int} (hh : 0 ≤ h) (a0 : 0 ≤ a) (a1 : a < pw (2 * h)) (b0 : 0 ≤ b) (b1 : b < pw (2 * h)) :
    (a / pw h * (b / pw h) + (a % pw h * (b / pw h) + a / pw h * (b % pw h) + a % pw h * (b % pw h) / pw h) / pw h = a * b / pw (2 * h)) ∧
    ((a % pw h * (b / pw h) + a / pw h * (b % pw h) + a % pw h * (b % pw h) / pw h) % pw h * pw h + a % pw h * (b % pw h) % pw h = a * b % pw (2 * h)) := by
  have hs := half_sum hh a0 a1 b0 b1
  obtain ⟨_, _, _, _, _, ep⟩ := halves hh a0 a1
  have hp := pw_pos h
  rw [ep] at hs ⊢
  generalize a / pw h * (b / pw h) = hi at *
  generalize a % pw h * (b / pw h) + a / pw h * (b % pw h) = mi at *
  generalize a % pw h * (b % pw h) = lo at *
  have l1 := Int.emod_add_mul_ediv lo (pw h)
  have l2 := Int.emod_nonneg lo (b := pw h) (by omega)
  have l3 := Int.emod_lt_of_pos lo (b := pw h) (by omega)
  have m1 := Int.emod_add_mul_ediv (mi + lo / pw h) (pw h)
  have m2 := Int.emod_nonneg (mi + lo / pw h) (b := pw h) (by omega)
  have m3 := Int.emod_lt_of_pos (mi + lo / pw h) (b := pw h) (by omega)
  generalize (mi + lo / pw h) % pw h = mr at *
  generalize (mi + lo / pw h) / pw h = mq at *
  generalize lo % pw h = lr at *
  generalize lo / pw h = lq at *
  generalize pw h = H at *
  have hHH : 0 < H * H := Int.mul_pos (by omega) (by omega)
  have hu := (Int.ediv_emod_unique (a := a * b) (b := H * H) (r := mr * H + lr) (q := hi + mq) hHH).mpr
  have hb : mr * H ≤ (H - 1) * H := Int.mul_le_mul_of_nonneg_right (by omega) (by omega)
  have hb0 : 0 ≤ mr * H := Int.mul_nonneg m2 (by omega)
  have := hu ⟨by grind, by omega, by grind⟩
  exact ⟨this.1.symm, this.2.symm⟩
theorem half_low {x h : Int} : x % pw h = x % pw h := rfl

/-! ### the list of moved words, the digits with a sign -/
def movedAt (w a b : Int) (k : Nat) : Int := bt b k * (a * pw k % pw w)
def movedL (w a b : Int) : List Int := if v2 w a b then (List.range w.toNat).map (movedAt w a b) else []
theorem moved_mul {w a b : Int} (k : Nat) : bt b k * a * pw k % pw w = movedAt w a b k := by
  have hp := pw_pos w
  unfold movedAt
  rcases (show bt b k = 0 ∨ bt b k = 1 by have := bt_01 b k; omega) with h | h <;> rw [h]
  · simp
  · simp
def digit (n : Int) (k : Nat) : Int := bt n ((2 * k : Nat) : Int) + (if k = 0 then 0 else bt n ((2 * k - 1 : Nat) : Int)) - 2 * bt n ((2 * k + 1 : Nat) : Int)
def boothL (w x : Int) : List Int := if vX w x then (List.range ((w.toNat + 1) / 2)).map (digit (sg w x)) else []

/-! ### divisions -/
def vD (w a b : Int) : Bool := v2 w a b && decide (b ≠ 0)
def quo (w a b : Int) : Int := if vD w a b then a / b else -1
def rem_ (w a b : Int) : Int := if vD w a b then a % b else -1
def quoS (w a b : Int) : Int := if vD w a b then (sg w a).tdiv (sg w b) % pw w else -1
def remS (w a b : Int) : Int := if vD w a b then (sg w a).tmod (sg w b) % pw w else -1
theorem vD_iff {w a b : Int} : vD w a b = true ↔ v2 w a b = true ∧ b ≠ 0 := by unfold vD; simp
theorem sg_ne {w b : Int} (h : vX w b = true) (hb : b ≠ 0) : sg w b ≠ 0 := by
  obtain ⟨h1, h2, h3, h4⟩ := vX_iff.mp h
  unfold sg; split <;> omega
theorem tdiv_bd {n m : Int} (h : -2048 ≤ n ∧ n ≤ 2048) : -2048 ≤ n.tdiv m ∧ n.tdiv m ≤ 2048 := by
  have h1 : (n.tdiv m).natAbs ≤ n.natAbs := by rw [Int.natAbs_tdiv]; exact Nat.div_le_self _ _
  omega
theorem tmod_bd' {n m : Int} (h : -2048 ≤ n ∧ n ≤ 2048) : -2048 ≤ n.tmod m ∧ n.tmod m ≤ 2048 := by
  have h1 : (n.tmod m).natAbs ≤ n.natAbs := by rw [Int.natAbs_tmod]; exact Nat.mod_le _ _
  omega
/-- The rest behind i rounds of the division, the highest bit first. -/
def restAt (a b : Int) (n : Nat) : Nat → Int
  | 0 => 0
  | i + 1 => if b ≤ 2 * restAt a b n i + bt a ((n : Int) - 1 - i) then 2 * restAt a b n i + bt a ((n : Int) - 1 - i) - b else 2 * restAt a b n i + bt a ((n : Int) - 1 - i)
theorem restAt_bd {a b : Int} (n : Nat) (hb : 1 ≤ b) (i : Nat) : 0 ≤ restAt a b n i ∧ restAt a b n i < b := by
  induction i with
  | zero => simp only [restAt]; omega
  | succ i ih => have := bt_01 a ((n : Int) - 1 - i); simp only [restAt]; split <;> omega
def stepsL (w a b : Int) : List Int := if vD w a b then (List.range w.toNat).map (fun i => restAt a b w.toNat (i + 1)) else []
/-- The rest and the quotient behind i rounds of the division whose rest may be less than 0. -/
def sgnAt (a b : Int) (n : Nat) : Nat → Int × Int
  | 0 => (0, 0)
  | i + 1 =>
    let r := if 0 ≤ (sgnAt a b n i).1 then 2 * (sgnAt a b n i).1 + bt a ((n : Int) - 1 - i) - b else 2 * (sgnAt a b n i).1 + bt a ((n : Int) - 1 - i) + b
    (r, if 0 ≤ r then 2 * (sgnAt a b n i).2 + 1 else 2 * (sgnAt a b n i).2)
theorem sgnAt_bd {a b : Int} (n : Nat) (hb : 1 ≤ b) (i : Nat) : -b ≤ (sgnAt a b n i).1 ∧ (sgnAt a b n i).1 < b ∧ 0 ≤ (sgnAt a b n i).2 ∧ (sgnAt a b n i).2 < pw i := by
  induction i with
  | zero => simp only [sgnAt]; have := pw_pos ((0 : Nat) : Int); omega
  | succ i ih =>
    have := bt_01 a ((n : Int) - 1 - i)
    have hp := pw_succ (k := (i : Int)) (by omega)
    rw [show ((i + 1 : Nat) : Int) = (i : Int) + 1 by omega, hp]
    obtain ⟨h1, h2, h3, h4⟩ := ih
    simp only [sgnAt]
    refine ⟨?_, ?_, ?_, ?_⟩ <;> split <;> (try split) <;> omega
def sgnQ (w a b : Int) : Int := if vD w a b then (sgnAt a b w.toNat w.toNat).2 else -1
def sgnR (w a b : Int) : Int := if vD w a b then (if (sgnAt a b w.toNat w.toNat).1 < 0 then (sgnAt a b w.toNat w.toNat).1 + b else (sgnAt a b w.toNat w.toNat).1) else -1
end Bw
