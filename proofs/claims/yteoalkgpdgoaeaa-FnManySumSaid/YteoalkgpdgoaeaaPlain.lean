/-
  PLAIN LAWS OF WORDS: powers of two, the bits of a number, sums of bits; no program in sight. What is proved: identities between the arithmetic that the walks compute. Conditions: each lemma names its own bounds.
-/
import Derived.Laws.BitsAllLaws
import Derived.WalkKit
namespace Bw
open Go

/-! ### powers of two -/
def pw (k : Int) : Int := 2 ^ k.toNat
theorem pw_nat (k : Int) : pw k = ((2 ^ k.toNat : Nat) : Int) := by unfold pw; simp
theorem pw_pos (k : Int) : 1 ≤ pw k := by
  rw [pw_nat]; have := Nat.two_pow_pos k.toNat; omega
theorem pw_mono {a b : Int} (h : a ≤ b) : pw a ≤ pw b := by
  rw [pw_nat, pw_nat]
  have : 2 ^ a.toNat ≤ 2 ^ b.toNat := Nat.pow_le_pow_right (by decide) (by omega)
  omega
theorem pw_add {a b : Int} (ha : 0 ≤ a) (hb : 0 ≤ b) : pw (a + b) = pw a * pw b := by
  unfold pw
  rw [← Int.pow_add]
  congr 1
  omega
theorem pw_0 : pw 0 = 1 := rfl
theorem pw_1 : pw 1 = 2 := rfl
theorem pw_12 : pw 12 = 4096 := rfl
theorem pw_24 : pw 24 = 16777216 := rfl
theorem pw_succ {k : Int} (h : 0 ≤ k) : pw (k + 1) = 2 * pw k := by rw [pw_add h (by omega), pw_1]; omega
theorem pw_pred {k : Int} (h : 1 ≤ k) : pw k = 2 * pw (k - 1) := by
  have := pw_succ (k := k - 1) (by omega)
  rw [show k - 1 + 1 = k by omega] at this
  exact this
theorem pw_cast (k : Nat) : pw (k : Int) = ((2 ^ k : Nat) : Int) := by rw [pw_nat]; simp
theorem pw_le12 {k : Int} (h : k ≤ 12) : pw k ≤ 4096 := pw_12 ▸ pw_mono h
theorem pw_le24 {k : Int} (h : k ≤ 24) : pw k ≤ 16777216 := pw_24 ▸ pw_mono h
theorem pw_ge2 {k : Int} (h : 1 ≤ k) : 2 ≤ pw k := pw_1 ▸ pw_mono h

/-! ### shifts as the walk spells them -/
theorem shl_wrap {x k : Int} (h0 : -9223372036854775808 ≤ x * pw k) (h1 : x * pw k ≤ 9223372036854775807) : IntKind.i64.wrap (x * 2 ^ k.toNat) = x * pw k := by
  show IntKind.i64.wrap (x * pw k) = x * pw k
  rw [IntKind.wrap_i64]; omega
theorem shl_one {k : Int} (h1 : k ≤ 40) : IntKind.i64.wrap (2 ^ k.toNat) = pw k := by
  show IntKind.i64.wrap (pw k) = pw k
  have := pw_pos k
  have h40 : pw k ≤ pw 40 := pw_mono h1
  have : pw 40 = 1099511627776 := rfl
  rw [IntKind.wrap_i64]; omega

/-! ### the model's bitwise operations on int -/
theorem ofInt_toNat (n : Int) : ((BitVec.ofInt 64 n).toNat : Int) = n % 18446744073709551616 := by
  rw [BitVec.toNat_ofInt]
  have : (0 : Int) ≤ n % ((2 ^ 64 : Nat) : Int) := Int.emod_nonneg _ (by decide)
  simp only [Int.toNat_of_nonneg this]
  rfl
theorem ofInt_small {n : Int} (h0 : 0 ≤ n) (h1 : n < 9223372036854775808) : (BitVec.ofInt 64 n).toNat = n.toNat := by
  have := ofInt_toNat n
  omega
/-- 'n & (2^k - 1)' is the remainder of n by 2^k, from 0 on, whatever n's sign. -/
theorem and_mask {k : Int} (hk : k ≤ 40) (n : Int) : bits .and .i64 n (pw k - 1) = n % pw k := by
  have hp := pw_pos k
  have h40 : pw k ≤ pw 40 := pw_mono hk
  have h40' : pw 40 = 1099511627776 := rfl
  show IntKind.i64.wrap ((BitVec.ofInt 64 n &&& BitVec.ofInt 64 (pw k - 1)).toNat : Int) = _
  rw [BitVec.toNat_and, ofInt_small (n := pw k - 1) (by omega) (by omega)]
  have e1 : (pw k - 1).toNat = 2 ^ k.toNat - 1 := by rw [pw_nat]; omega
  rw [e1, Nat.and_two_pow_sub_one_eq_mod]
  have e2 : (((BitVec.ofInt 64 n).toNat % 2 ^ k.toNat : Nat) : Int) = n % pw k := by
    rw [Int.natCast_emod, ofInt_toNat, ← pw_nat]
    refine Int.emod_emod_of_dvd n ?_
    have : pw k ∣ pw 64 := by
      have : k.toNat ≤ 64 := by omega
      unfold pw
      exact ⟨2 ^ (64 - k.toNat), by rw [← Int.pow_add]; congr 1; show (64 : Int).toNat = _; omega⟩
    exact this
  rw [e2]
  have := Int.emod_nonneg n (b := pw k) (by omega)
  have := Int.emod_lt_of_pos n (b := pw k) (by omega)
  rw [IntKind.wrap_i64]; omega
theorem and_one (n : Int) : bits .and .i64 n 1 = n % 2 := and_mask (k := 1) (by omega) n
/-- '^x' -/
theorem xor_neg1 {n : Int} (h0 : 0 ≤ n) (h1 : n < 4611686018427387904) : bits .xor .i64 (-1) n = -1 - n := by
  show IntKind.i64.wrap ((BitVec.ofInt 64 (-1) ^^^ BitVec.ofInt 64 n).toNat : Int) = _
  have h2 : BitVec.ofInt 64 (-1) = BitVec.allOnes 64 := by decide
  rw [h2, BitVec.allOnes_xor, BitVec.toNat_not, ofInt_small h0 (by omega), IntKind.wrap_i64]
  omega

/-! ### and, or, xor of numbers that are not negative -/
def andI (a b : Int) : Int := ((a.toNat &&& b.toNat : Nat) : Int)
def orI (a b : Int) : Int := ((a.toNat ||| b.toNat : Nat) : Int)
def xorI (a b : Int) : Int := ((a.toNat ^^^ b.toNat : Nat) : Int)
theorem bits_and {a b : Int} (ha : 0 ≤ a) (ha1 : a < 4611686018427387904) (hb : 0 ≤ b) (hb1 : b < 4611686018427387904) : bits .and .i64 a b = andI a b := by
  have hx : a.toNat &&& b.toNat < 2 ^ 62 := Nat.and_lt_two_pow _ (by omega)
  show IntKind.i64.wrap ((BitVec.ofInt 64 a &&& BitVec.ofInt 64 b).toNat : Int) = _
  rw [BitVec.toNat_and, ofInt_small ha (by omega), ofInt_small hb (by omega), IntKind.wrap_i64, andI]
  omega
theorem bits_or {a b : Int} (ha : 0 ≤ a) (ha1 : a < 4611686018427387904) (hb : 0 ≤ b) (hb1 : b < 4611686018427387904) : bits .or .i64 a b = orI a b := by
  have hx : a.toNat ||| b.toNat < 2 ^ 62 := Nat.or_lt_two_pow (by omega) (by omega)
  show IntKind.i64.wrap ((BitVec.ofInt 64 a ||| BitVec.ofInt 64 b).toNat : Int) = _
  rw [BitVec.toNat_or, ofInt_small ha (by omega), ofInt_small hb (by omega), IntKind.wrap_i64, orI]
  omega
theorem bits_xor {a b : Int} (ha : 0 ≤ a) (ha1 : a < 4611686018427387904) (hb : 0 ≤ b) (hb1 : b < 4611686018427387904) : bits .xor .i64 a b = xorI a b := by
  have hx : a.toNat ^^^ b.toNat < 2 ^ 62 := Nat.xor_lt_two_pow (by omega) (by omega)
  show IntKind.i64.wrap ((BitVec.ofInt 64 a ^^^ BitVec.ofInt 64 b).toNat : Int) = _
  rw [BitVec.toNat_xor, ofInt_small ha (by omega), ofInt_small hb (by omega), IntKind.wrap_i64, xorI]
  omega
theorem nat_and_div (a b : Nat) : (a &&& b) / 2 = a / 2 &&& b / 2 := Nat.and_div_two
theorem nat_bit (a b : Nat) : (a &&& b) % 2 = a % 2 * (b % 2) ∧ (a ||| b) % 2 = a % 2 + b % 2 - a % 2 * (b % 2) ∧ (a ^^^ b) % 2 = (a + b) % 2 := by
  have h1 := Nat.and_mod_two_pow (n := 1) (a := a) (b := b)
  have h2 := Nat.or_mod_two_pow (n := 1) (a := a) (b := b)
  have h3 := Nat.xor_mod_two_pow (n := 1) (a := a) (b := b)
  simp only [Nat.pow_one] at h1 h2 h3
  rw [h1, h2, h3]
  rcases Nat.mod_two_eq_zero_or_one a with ha | ha <;> rcases Nat.mod_two_eq_zero_or_one b with hb | hb <;> simp [ha, hb] <;> omega
theorem nat_sums (n : Nat) : ∀ a b : Nat, a ≤ n → (a ||| b) + (a &&& b) = a + b ∧ (a ^^^ b) + 2 * (a &&& b) = a + b := by
  induction n using Nat.strongRecOn with
  | _ n ih =>
    intro a b ha
    by_cases h0 : a = 0
    · subst h0; simp
    · have hr := ih (a / 2) (by omega) (a / 2) (b / 2) (Nat.le_refl _)
      rw [← nat_and_div, ← Nat.or_div_two, ← Nat.xor_div_two] at hr
      obtain ⟨m1, m2, m3⟩ := nat_bit a b
      rcases Nat.mod_two_eq_zero_or_one a with ha | ha <;> rcases Nat.mod_two_eq_zero_or_one b with hb | hb <;> rw [ha, hb] at m1 m2 <;> constructor <;> omega
theorem or_and (a b : Int) (ha : 0 ≤ a) (hb : 0 ≤ b) : orI a b = a + b - andI a b := by
  have := (nat_sums a.toNat a.toNat b.toNat (Nat.le_refl _)).1
  unfold orI andI; omega
theorem xor_and (a b : Int) (ha : 0 ≤ a) (hb : 0 ≤ b) : xorI a b = a + b - 2 * andI a b := by
  have := (nat_sums a.toNat a.toNat b.toNat (Nat.le_refl _)).2
  unfold xorI andI; omega
theorem and_bd (a b : Int) (ha : 0 ≤ a) (hb : 0 ≤ b) : 0 ≤ andI a b ∧ andI a b ≤ a ∧ andI a b ≤ b := by
  have h1 : a.toNat &&& b.toNat ≤ a.toNat := Nat.and_le_left
  have h2 : a.toNat &&& b.toNat ≤ b.toNat := Nat.and_le_right
  unfold andI; omega
theorem andI_lt {a b k : Int} (ha : 0 ≤ a) (hb : 0 ≤ b) (h : a < pw k) : andI a b < pw k := by have := and_bd a b ha hb; omega
theorem orI_lt {a b k : Int} (_ha : 0 ≤ a) (hb : 0 ≤ b) (h : a < pw k) (h' : b < pw k) : 0 ≤ orI a b ∧ orI a b < pw k := by
  rw [pw_nat] at *
  have := Nat.or_lt_two_pow (x := a.toNat) (y := b.toNat) (n := k.toNat) (by omega) (by omega)
  unfold orI; omega
theorem xorI_lt {a b k : Int} (_ha : 0 ≤ a) (hb : 0 ≤ b) (h : a < pw k) (h' : b < pw k) : 0 ≤ xorI a b ∧ xorI a b < pw k := by
  rw [pw_nat] at *
  have := Nat.xor_lt_two_pow (x := a.toNat) (y := b.toNat) (n := k.toNat) (by omega) (by omega)
  unfold xorI; omega
/-- A number of k bits put above, another one of fewer than j bits: or is the sum. -/
theorem or_disj {a b j : Int} (ha : 0 ≤ a) (hb : 0 ≤ b) (hb1 : b < pw j) : orI (a * pw j) b = a * pw j + b := by
  rw [pw_nat] at hb1
  have h : 2 ^ j.toNat * a.toNat ||| b.toNat = 2 ^ j.toNat * a.toNat + b.toNat := (Nat.two_pow_add_eq_or_of_lt (by omega) _).symm
  unfold orI
  have e : (a * pw j).toNat = 2 ^ j.toNat * a.toNat := by
    rw [pw_nat]
    have : a = (a.toNat : Int) := by omega
    rw [this, ← Int.natCast_mul, Int.toNat_natCast, Int.toNat_natCast, Nat.mul_comm]
  rw [e, h, Int.natCast_add, Int.natCast_mul, ← pw_nat]
  rw [Int.mul_comm, show ((a.toNat : Nat) : Int) = a by omega, show ((b.toNat : Nat) : Int) = b by omega]

/-! ### one bit of a number -/
def bt (x k : Int) : Int := x / pw k % 2
theorem bt_01 (x k : Int) : 0 ≤ bt x k ∧ bt x k ≤ 1 := by unfold bt; omega
theorem div_nonneg {x k : Int} (h : 0 ≤ x) : 0 ≤ x / pw k := Int.ediv_nonneg h (by have := pw_pos k; omega)
theorem div_le {x k : Int} (h : 0 ≤ x) : x / pw k ≤ x := Int.ediv_le_self _ h
theorem div_ge {x k : Int} (h : -4611686018427387904 ≤ x) : -4611686018427387904 ≤ x / pw k := by
  have hp := pw_pos k
  refine (Int.le_ediv_iff_mul_le (by omega)).mpr ?_
  have : (4611686018427387904 : Int) * 1 ≤ 4611686018427387904 * pw k := Int.mul_le_mul_of_nonneg_left hp (by decide)
  omega
/-- x and its remainders: the remainder by 2^(k+1) is that by 2^k and the bit k at its place. -/
theorem emod_pw_succ (x : Int) {k : Int} (hk : 0 ≤ k) : x % pw (k + 1) = x % pw k + bt x k * pw k := by
  have hp := pw_pos k
  have h1 := Int.emod_add_mul_ediv x (pw k)
  have h2 := Int.emod_add_mul_ediv (x / pw k) 2
  have h3 := Int.emod_nonneg x (b := pw k) (by omega)
  have h4 := Int.emod_lt_of_pos x (b := pw k) (by omega)
  unfold bt
  rw [pw_succ hk]
  have hb : 0 ≤ x / pw k % 2 ∧ x / pw k % 2 ≤ 1 := by omega
  have hu := (Int.ediv_emod_unique (a := x) (b := 2 * pw k) (r := x % pw k + x / pw k % 2 * pw k) (q := x / pw k / 2) (by omega)).mpr
  refine (hu ⟨?_, ?_, ?_⟩).2
  · grind
  · rcases (show x / pw k % 2 = 0 ∨ x / pw k % 2 = 1 by omega) with h | h <;> rw [h] <;> omega
  · rcases (show x / pw k % 2 = 0 ∨ x / pw k % 2 = 1 by omega) with h | h <;> rw [h] <;> omega
/-- The highest bit of a word. -/
theorem bt_top {w x : Int} (hw : 1 ≤ w) (h0 : 0 ≤ x) (h1 : x < pw w) : bt x (w - 1) = if pw (w - 1) ≤ x then 1 else 0 := by
  have hp := pw_pos (w - 1)
  have he := pw_pred hw
  unfold bt
  split
  · rename_i h
    have : x / pw (w - 1) = 1 := by
      have := (Int.ediv_emod_unique (a := x) (b := pw (w - 1)) (r := x - pw (w - 1)) (q := 1) (by omega)).mpr ⟨by omega, by omega, by omega⟩
      exact this.1
    omega
  · rename_i h
    rw [Int.ediv_eq_zero_of_lt h0 (by omega)]; rfl
theorem bt_nat (x k : Nat) : bt (x : Int) (k : Int) = if x.testBit k then 1 else 0 := by
  unfold bt
  rw [pw_cast, ← Int.natCast_ediv]
  have := Nat.testBit_eq_decide_div_mod_eq (x := x) (i := k)
  rw [this]
  generalize x / 2 ^ k = y
  by_cases h : y % 2 = 1
  · simp only [h, decide_true, if_true]; omega
  · simp only [h, decide_false, Bool.false_eq_true, if_false]; omega

/-! ### the sum of the common bits, bit by bit -/
theorem and_sum (a b : Int) (ha : 0 ≤ a) (hb : 0 ≤ b) (k : Nat) :
    andI (a % pw ((k + 1 : Nat) : Int)) (b % pw ((k + 1 : Nat) : Int)) = andI (a % pw k) (b % pw k) + bt a k * bt b k * pw k := by
  obtain ⟨x, rfl⟩ : ∃ x : Nat, a = x := ⟨a.toNat, by omega⟩
  obtain ⟨y, rfl⟩ : ∃ y : Nat, b = y := ⟨b.toNat, by omega⟩
  rw [bt_nat, bt_nat]
  simp only [pw_cast, ← Int.natCast_emod, andI, Int.toNat_natCast, ← Nat.and_mod_two_pow]
  have h := emod_pw_succ ((x &&& y : Nat) : Int) (k := (k : Int)) (by omega)
  rw [bt_nat, show ((k : Int) + 1) = ((k + 1 : Nat) : Int) by omega, pw_cast, pw_cast, ← Int.natCast_emod, ← Int.natCast_emod] at h
  rw [h, Nat.testBit_and]
  cases x.testBit k <;> cases y.testBit k <;> simp
theorem emod_small {x k : Int} (h0 : 0 ≤ x) (h1 : x < pw k) : x % pw k = x := Int.emod_eq_of_lt h0 h1

end Bw
