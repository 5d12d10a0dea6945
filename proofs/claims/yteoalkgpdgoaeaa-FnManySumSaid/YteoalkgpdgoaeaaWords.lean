/-
  PLAIN LAWS OF WORDS, 2: what each function of words answers, as one plain function of integers, and the identities between them; no program in sight. Conditions: each lemma names its own.
-/
import Derived.Test.YteoalkgpdgoaeaaPlain
namespace Bw
open Go

/-! ### which arguments are valid -/
def vW (w : Int) : Bool := decide (1 ≤ w ∧ w ≤ 12)
def vX (w x : Int) : Bool := decide (1 ≤ w ∧ w ≤ 12 ∧ 0 ≤ x ∧ x < pw w)
def vB (k : Int) : Bool := decide (0 ≤ k ∧ k ≤ 12)
def v2 (w a b : Int) : Bool := vX w a && vX w b
def inB (n lo hi : Int) : Bool := decide (lo ≤ n ∧ n ≤ hi)
def allX (w : Int) (l : List Int) : Bool := l.all (vX w)
def vK (w x k : Int) : Bool := vX w x && vB k
theorem vW_iff {w : Int} : vW w = true ↔ 1 ≤ w ∧ w ≤ 12 := by unfold vW; simp
theorem vX_iff {w x : Int} : vX w x = true ↔ 1 ≤ w ∧ w ≤ 12 ∧ 0 ≤ x ∧ x < pw w := by unfold vX; simp
theorem vB_iff {k : Int} : vB k = true ↔ 0 ≤ k ∧ k ≤ 12 := by unfold vB; simp
theorem v2_iff {w a b : Int} : v2 w a b = true ↔ vX w a = true ∧ vX w b = true := by unfold v2; simp
theorem vK_iff {w x k : Int} : vK w x k = true ↔ vX w x = true ∧ vB k = true := by unfold vK; simp
theorem inB_iff {n lo hi : Int} : inB n lo hi = true ↔ lo ≤ n ∧ n ≤ hi := by unfold inB; simp
theorem vX_inB {w x : Int} (h : vW w = true) : inB x 0 (pw w - 1) = vX w x := by
  have := vW_iff.mp h
  rw [Bool.eq_iff_iff, inB_iff, vX_iff]; omega
theorem vX_no {w x : Int} (h : vW w = false) : vX w x = false := by
  rw [← Bool.not_eq_true, vW_iff] at h
  rw [← Bool.not_eq_true, vX_iff]; omega
theorem allX_take_succ (w : Int) (l : List Int) (n : Nat) (h : n < l.length) : allX w (l.take (n + 1)) = (allX w (l.take n) && vX w (l.getD n 0)) := by
  have e : l.take (n + 1) = l.take n ++ [l[n]] := by rw [List.take_succ_eq_append_getElem h]
  have e2 : l.getD n 0 = l[n] := by simp [List.getD, h]
  unfold allX
  rw [e, List.all_append, e2]; simp
theorem allX_no (w : Int) (l : List Int) (n : Nat) (h : n < l.length) (hv : vX w (l.getD n 0) = false) : allX w l = false := by
  have e2 : l.getD n 0 = l[n] := by simp [List.getD, h]
  rw [e2] at hv
  unfold allX
  rw [← Bool.not_eq_true, List.all_eq_true]
  intro ha
  have := ha l[n] (List.getElem_mem h)
  rw [hv] at this; cases this
theorem vX_vW {w x : Int} (h : vX w x = true) : vW w = true := vW_iff.mpr ⟨(vX_iff.mp h).1, (vX_iff.mp h).2.1⟩
theorem vX_mod {w : Int} (h : vW w = true) (n : Int) : vX w (n % pw w) = true := by
  have hp := pw_pos w
  have := vW_iff.mp h
  exact vX_iff.mpr ⟨this.1, this.2, Int.emod_nonneg _ (by omega), Int.emod_lt_of_pos _ (by omega)⟩

/-! ### the functions -/
def wordOf (w n : Int) : Int := if vW w then n % pw w else -1
def sg (w x : Int) : Int := if pw (w - 1) ≤ x then x - pw w else x
def signedOf (w x : Int) : Int := if vX w x then sg w x else 0
def wadd (w a b : Int) : Int := if v2 w a b then (a + b) % pw w else -1
def wsub (w a b : Int) : Int := if v2 w a b then (a - b) % pw w else -1
def wtimes (w a b : Int) : Int := if v2 w a b then (a * b) % pw w else -1
def wand (w a b : Int) : Int := if v2 w a b then andI a b else -1
def wor (w a b : Int) : Int := if v2 w a b then orI a b else -1
def wxor (w a b : Int) : Int := if v2 w a b then xorI a b else -1
def wnot (w x : Int) : Int := if vX w x then pw w - 1 - x else -1
def wleft (w x k : Int) : Int := if vK w x k then (x * pw k) % pw w else -1
def wright (w x k : Int) : Int := if vK w x k then x / pw k else -1
def wdown (w x k : Int) : Int := if vK w x k then (sg w x / pw k) % pw w else -1
def wturn (w x k : Int) : Int := if vK w x k then (x * pw (k % w)) % pw w + x / pw (w - k % w) else -1

/-! ### remainders -/
theorem cong {m a b : Int} (q : Int) (h : a = b + m * q) : a % m = b % m := by rw [h, Int.add_mul_emod_self_left]
theorem cong_iff {m a b : Int} (h : a % m = b % m) : ∃ q, a = b + m * q := by
  refine ⟨a / m - b / m, ?_⟩
  have h1 := Int.emod_add_mul_ediv a m
  have h2 := Int.emod_add_mul_ediv b m
  grind
theorem mod_q (a m : Int) : ∃ q, a % m = a + m * q := ⟨-(a / m), by have := Int.emod_add_mul_ediv a m; grind⟩
/-- The remainder cut towards nought, put right: from 0 on. -/
theorem tmod_fix {m : Int} (hm : 1 ≤ m) (n : Int) : (if n.tmod m < 0 then n.tmod m + m else n.tmod m) = n % m := by
  rw [Int.tmod_eq_emod]
  have h1 := Int.emod_nonneg n (b := m) (by omega)
  have h2 := Int.emod_lt_of_pos n (b := m) (by omega)
  have h3 : (m.natAbs : Int) = m := by omega
  by_cases h : 0 ≤ n ∨ m ∣ n
  · rw [if_pos h, if_neg (by omega)]; omega
  · rw [if_neg h, h3]
    rw [if_pos (by omega)]; omega
theorem tmod_bd {m : Int} (hm : 1 ≤ m) (n : Int) : -m < n.tmod m ∧ n.tmod m < m := by
  rw [Int.tmod_eq_emod]
  have h1 := Int.emod_nonneg n (b := m) (by omega)
  have h2 := Int.emod_lt_of_pos n (b := m) (by omega)
  have h3 : (m.natAbs : Int) = m := by omega
  by_cases h : 0 ≤ n ∨ m ∣ n
  · rw [if_pos h]; omega
  · rw [if_neg h, h3]
    have : n % m ≠ 0 := fun h0 => h (Or.inr (Int.dvd_of_emod_eq_zero h0))
    omega
theorem tmod_zero {m : Int} (n : Int) (h : n % m = 0) : n.tmod m = 0 := Int.tmod_eq_zero_of_dvd (Int.dvd_of_emod_eq_zero h)

/-! ### signs -/
theorem sg_bt {w x : Int} (hw : 1 ≤ w) (h0 : 0 ≤ x) (h1 : x < pw w) : x - bt x (w - 1) * pw w = sg w x := by
  rw [bt_top hw h0 h1]; unfold sg; split <;> omega
theorem sg_q (w x : Int) : ∃ q, sg w x = x + pw w * q := by
  unfold sg; split
  · exact ⟨-1, by omega⟩
  · exact ⟨0, by omega⟩
theorem sg_bd {w x : Int} (hw : 1 ≤ w) (h0 : 0 ≤ x) (h1 : x < pw w) : -pw (w - 1) ≤ sg w x ∧ sg w x < pw (w - 1) := by
  have := pw_pred hw
  unfold sg; split <;> omega
theorem sg_neg {w x : Int} (hw : 1 ≤ w) (h0 : 0 ≤ x) (h1 : x < pw w) : sg w x < 0 ↔ pw (w - 1) ≤ x := by
  have := pw_pred hw
  unfold sg; split <;> omega
theorem sg_bd12 {w x : Int} (h : vX w x = true) : -2048 ≤ sg w x ∧ sg w x < 2048 := by
  obtain ⟨h1, h2, h3, h4⟩ := vX_iff.mp h
  have := sg_bd h1 h3 h4
  have h11 : pw (w - 1) ≤ pw 11 := pw_mono (by omega)
  have : pw 11 = 2048 := rfl
  omega
theorem sg_mod {w x : Int} (h : vX w x = true) : sg w x % pw w = x := by
  obtain ⟨h1, h2, h3, h4⟩ := vX_iff.mp h
  obtain ⟨q, hq⟩ := sg_q w x
  rw [cong q hq, emod_small h3 h4]
/-- The word of a number that lies in the range of signs, read with its sign, is the number. -/
theorem sg_of {w n : Int} (hw : 1 ≤ w) (h0 : -pw (w - 1) ≤ n) (h1 : n < pw (w - 1)) : sg w (n % pw w) = n := by
  have hp := pw_pred hw
  have hpos := pw_pos (w - 1)
  by_cases h : 0 ≤ n
  · rw [emod_small h (by omega)]; unfold sg; rw [if_neg (by omega)]
  · have : n % pw w = n + pw w := by
      rw [← Int.add_emod_right, emod_small (by omega) (by omega)]
    rw [this]; unfold sg; rw [if_pos (by omega)]; omega

/-! ### the words' functions stay within the words -/
theorem wadd_ok {w a b : Int} (h : v2 w a b = true) : vX w (wadd w a b) = true := by
  unfold wadd; rw [if_pos h]; exact vX_mod (vX_vW (v2_iff.mp h).1) _
theorem wadd_eq {w a b : Int} (h : v2 w a b = true) : wadd w a b = (a + b) % pw w := by unfold wadd; rw [if_pos h]
theorem wsub_eq {w a b : Int} (h : v2 w a b = true) : wsub w a b = (a - b) % pw w := by unfold wsub; rw [if_pos h]
theorem wtimes_eq {w a b : Int} (h : v2 w a b = true) : wtimes w a b = (a * b) % pw w := by unfold wtimes; rw [if_pos h]
theorem wand_eq {w a b : Int} (h : v2 w a b = true) : wand w a b = andI a b := by unfold wand; rw [if_pos h]
theorem wor_eq {w a b : Int} (h : v2 w a b = true) : wor w a b = orI a b := by unfold wor; rw [if_pos h]
theorem wxor_eq {w a b : Int} (h : v2 w a b = true) : wxor w a b = xorI a b := by unfold wxor; rw [if_pos h]
theorem wnot_eq {w x : Int} (h : vX w x = true) : wnot w x = pw w - 1 - x := by unfold wnot; rw [if_pos h]
theorem wordOf_eq {w n : Int} (h : vW w = true) : wordOf w n = n % pw w := by unfold wordOf; rw [if_pos h]
theorem signedOf_eq {w x : Int} (h : vX w x = true) : signedOf w x = sg w x := by unfold signedOf; rw [if_pos h]
theorem wleft_eq {w x k : Int} (h : vK w x k = true) : wleft w x k = (x * pw k) % pw w := by unfold wleft; rw [if_pos h]
theorem wright_eq {w x k : Int} (h : vK w x k = true) : wright w x k = x / pw k := by unfold wright; rw [if_pos h]
theorem wdown_eq {w x k : Int} (h : vK w x k = true) : wdown w x k = (sg w x / pw k) % pw w := by unfold wdown; rw [if_pos h]
theorem wturn_eq {w x k : Int} (h : vK w x k = true) : wturn w x k = (x * pw (k % w)) % pw w + x / pw (w - k % w) := by unfold wturn; rw [if_pos h]
theorem vX_wnot {w x : Int} (h : vX w x = true) : vX w (wnot w x) = true := by
  obtain ⟨h1, h2, h3, h4⟩ := vX_iff.mp h
  rw [wnot_eq h]; exact vX_iff.mpr ⟨h1, h2, by omega, by omega⟩
theorem vX_and {w a b : Int} (h : v2 w a b = true) : vX w (andI a b) = true := by
  obtain ⟨ha, hb⟩ := v2_iff.mp h
  obtain ⟨h1, h2, h3, h4⟩ := vX_iff.mp ha
  obtain ⟨_, _, h5, h6⟩ := vX_iff.mp hb
  have := and_bd a b h3 h5
  exact vX_iff.mpr ⟨h1, h2, by omega, by omega⟩
theorem vX_or {w a b : Int} (h : v2 w a b = true) : vX w (orI a b) = true := by
  obtain ⟨ha, hb⟩ := v2_iff.mp h
  obtain ⟨h1, h2, h3, h4⟩ := vX_iff.mp ha
  obtain ⟨_, _, h5, h6⟩ := vX_iff.mp hb
  have := orI_lt h3 h5 h4 h6
  exact vX_iff.mpr ⟨h1, h2, by omega, by omega⟩
theorem vX_xor {w a b : Int} (h : v2 w a b = true) : vX w (xorI a b) = true := by
  obtain ⟨ha, hb⟩ := v2_iff.mp h
  obtain ⟨h1, h2, h3, h4⟩ := vX_iff.mp ha
  obtain ⟨_, _, h5, h6⟩ := vX_iff.mp hb
  have := xorI_lt h3 h5 h4 h6
  exact vX_iff.mpr ⟨h1, h2, by omega, by omega⟩
theorem vX_turn {w x r : Int} (h : vX w x = true) (hr0 : 0 ≤ r) (hr : r < w) :
    vX w ((x * pw r) % pw w + x / pw (w - r)) = true ∧ x * pw r % pw w = (x % pw (w - r)) * pw r ∧ 0 ≤ x / pw (w - r) ∧ x / pw (w - r) < pw r := by
  obtain ⟨h1, h2, h3, h4⟩ := vX_iff.mp h
  have hs : pw w = pw (w - r) * pw r := by rw [← pw_add (by omega) hr0]; congr 1; omega
  have hp := pw_pos r
  have hq := pw_pos (w - r)
  have e1 : x * pw r % pw w = (x % pw (w - r)) * pw r := by rw [hs, Int.mul_comm x, Int.mul_comm (pw (w - r)), Int.mul_emod_mul_of_pos _ _ (by omega), Int.mul_comm]
  have e2 : x / pw (w - r) < pw r := Int.ediv_lt_of_lt_mul (by omega) (by rw [Int.mul_comm, ← hs]; exact h4)
  have e3 : 0 ≤ x / pw (w - r) := div_nonneg h3
  refine ⟨vX_iff.mpr ⟨h1, h2, ?_, ?_⟩, e1, e3, e2⟩
  · have := Int.emod_nonneg (x * pw r) (b := pw w) (by have := pw_pos w; omega)
    omega
  · rw [e1]
    have hlt := Int.emod_lt_of_pos x (b := pw (w - r)) (by omega)
    have : (x % pw (w - r) + 1) * pw r ≤ pw (w - r) * pw r := Int.mul_le_mul_of_nonneg_right (by omega) (by omega)
    rw [← hs] at this
    have e4 : (x % pw (w - r) + 1) * pw r = x % pw (w - r) * pw r + pw r := by grind
    omega
end Bw
