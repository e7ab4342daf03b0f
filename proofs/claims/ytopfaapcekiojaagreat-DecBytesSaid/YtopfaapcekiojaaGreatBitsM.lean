/- The plain laws of fields of words (no program in sight). -/
import Derived.WalkKit
import Derived.Lib.BitFns
namespace Go.Proofs.YtopfaapcekiojaaGreat
open Go.RowKit

theorem pow_lt64 (n : Nat) (h : n < 64) : (1 : Int) ≤ 2 ^ n ∧ (2 : Int) ^ n < 18446744073709551616 := by
  have h1 : (2 : Nat) ^ n < 2 ^ 64 := Nat.pow_lt_pow_right (by decide) h
  have h2 : 0 < (2 : Nat) ^ n := Nat.two_pow_pos n
  have e : (2 : Int) ^ n = ((2 ^ n : Nat) : Int) := by simp
  rw [e]; omega
theorem npow_le {n m : Nat} (h : n ≤ m) : 2 ^ n ≤ 2 ^ m := Nat.pow_le_pow_right (by decide) h
theorem ipow (n : Nat) : (2 : Int) ^ n = ((2 ^ n : Nat) : Int) := by simp

/-- a field's bits -/
def getN (x lo wd : Nat) : Nat := x / 2 ^ lo % 2 ^ wd
/-- a word with a field's bits -/
def putN (x lo wd v : Nat) : Nat := x - getN x lo wd * 2 ^ lo + v * 2 ^ lo

theorem getN_lt (x lo wd : Nat) : getN x lo wd < 2 ^ wd := Nat.mod_lt _ (Nat.two_pow_pos _)
theorem getN_bit (x lo wd i : Nat) : (getN x lo wd).testBit i = (decide (i < wd) && x.testBit (lo + i)) := by
  unfold getN
  rw [Nat.testBit_mod_two_pow, Nat.testBit_div_two_pow]
  congr 2; omega
theorem split3 (x lo wd : Nat) : x = 2 ^ (lo + wd) * (x / 2 ^ (lo + wd)) + (2 ^ lo * getN x lo wd + x % 2 ^ lo) := by
  unfold getN
  have h1 := Nat.div_add_mod x (2 ^ lo)
  have h2 := Nat.div_add_mod (x / 2 ^ lo) (2 ^ wd)
  rw [Nat.div_div_eq_div_mul, ← Nat.pow_add] at h2
  rw [Nat.pow_add, Nat.mul_assoc, ← Nat.add_assoc, ← Nat.mul_add, ← Nat.pow_add, h2, h1]
theorem putN_eq (x lo wd v : Nat) : putN x lo wd v = 2 ^ (lo + wd) * (x / 2 ^ (lo + wd)) + (2 ^ lo * v + x % 2 ^ lo) := by
  unfold putN
  have h := split3 x lo wd
  have e : getN x lo wd * 2 ^ lo = 2 ^ lo * getN x lo wd := Nat.mul_comm _ _
  have e2 : v * 2 ^ lo = 2 ^ lo * v := Nat.mul_comm _ _
  omega
theorem putN_bit (x lo wd v i : Nat) (hv : v < 2 ^ wd) : (putN x lo wd v).testBit i = if lo ≤ i ∧ i < lo + wd then v.testBit (i - lo) else x.testBit i := by
  rw [putN_eq]
  have hl : x % 2 ^ lo < 2 ^ lo := Nat.mod_lt _ (Nat.two_pow_pos _)
  have hm : 2 ^ lo * v + x % 2 ^ lo < 2 ^ (lo + wd) := by
    rw [Nat.pow_add]
    have : 2 ^ lo * (v + 1) ≤ 2 ^ lo * 2 ^ wd := Nat.mul_le_mul_left _ hv
    rw [Nat.mul_add, Nat.mul_one] at this
    omega
  rw [Nat.testBit_two_pow_mul_add _ hm, Nat.testBit_two_pow_mul_add _ hl, Nat.testBit_div_two_pow, Nat.testBit_mod_two_pow]
  by_cases h1 : i < lo
  · have : ¬ lo ≤ i := by omega
    have h2 : i < lo + wd := by omega
    simp [h1, h2, this]
  · by_cases h2 : i < lo + wd
    · have : lo ≤ i := by omega
      simp [h1, h2, this]
    · have e : i - (lo + wd) + (lo + wd) = i := by omega
      simp [h2, e]
theorem bits_lt {x n : Nat} (h : ∀ i, n ≤ i → x.testBit i = false) : x < 2 ^ n := Nat.lt_pow_two_of_testBit x h
theorem bit_ge {x n i : Nat} (h : x < 2 ^ n) (hi : n ≤ i) : x.testBit i = false := Nat.testBit_lt_two_pow (Nat.lt_of_lt_of_le h (npow_le hi))
theorem putN_lt (x lo wd v n : Nat) (hx : x < 2 ^ n) (hv : v < 2 ^ wd) (h : lo + wd ≤ n) : putN x lo wd v < 2 ^ n :=
  bits_lt fun i hi => by
    rw [putN_bit _ _ _ _ _ hv, if_neg (by omega)]; exact bit_ge hx hi
/-- the mask of a field -/
def mskN (lo wd : Nat) : Nat := (2 ^ wd - 1) * 2 ^ lo
theorem mskN_bit (lo wd i : Nat) : (mskN lo wd).testBit i = (decide (lo ≤ i) && decide (i < lo + wd)) := by
  unfold mskN
  rw [Nat.testBit_mul_two_pow, Nat.testBit_two_pow_sub_one]
  by_cases h : lo ≤ i
  · have : (i - lo < wd) = (i < lo + wd) := by apply propext; omega
    simp [h, this]
  · simp [h]
theorem mskN_lt (lo wd n : Nat) (h : lo + wd ≤ n) : mskN lo wd < 2 ^ n := bits_lt fun i hi => by
  rw [mskN_bit]; simp; omega
theorem and_msk (x lo wd : Nat) : (x &&& mskN lo wd) / 2 ^ lo = getN x lo wd := by
  apply Nat.eq_of_testBit_eq
  intro i
  rw [Nat.testBit_div_two_pow, Nat.testBit_and, mskN_bit, getN_bit, Nat.add_comm i lo]
  by_cases h : i < wd <;> simp [h]
theorem and_msk_zero (x lo wd : Nat) : x &&& mskN lo wd = 0 ↔ ∀ i, lo ≤ i → i < lo + wd → x.testBit i = false := by
  constructor
  · intro h i h1 h2
    have := congrArg (fun y => Nat.testBit y i) h
    simpa [Nat.testBit_and, mskN_bit, h1, h2] using this
  · intro h
    apply Nat.eq_of_testBit_eq
    intro i
    rw [Nat.testBit_and, mskN_bit, Nat.zero_testBit]
    by_cases h1 : lo ≤ i
    · by_cases h2 : i < lo + wd
      · simp [h i h1 h2]
      · simp [h2]
    · simp [h1]
theorem put_bits (x lo wd v n : Nat) (hx : x < 2 ^ n) (hv : v < 2 ^ wd) (h : lo + wd ≤ n) : ((x &&& (2 ^ n - 1 - mskN lo wd)) ||| v * 2 ^ lo) = putN x lo wd v := by
  apply Nat.eq_of_testBit_eq
  intro i
  have e : 2 ^ n - 1 - mskN lo wd = 2 ^ n - (mskN lo wd + 1) := by omega
  rw [Nat.testBit_or, Nat.testBit_and, e, Nat.testBit_two_pow_sub_succ (mskN_lt lo wd n h), mskN_bit, Nat.testBit_mul_two_pow, putN_bit _ _ _ _ _ hv]
  by_cases h1 : lo ≤ i
  · by_cases h2 : i < lo + wd
    · simp [h1, h2]
    · have h3 : v.testBit (i - lo) = false := bit_ge hv (by omega)
      by_cases h4 : i < n
      · simp [h1, h2, h3, h4]
      · have := bit_ge hx (Nat.le_of_not_lt h4)
        simp [h1, h2, h3, h4, this]
  · by_cases h4 : i < n
    · simp [h1, h4]
    · have := bit_ge hx (Nat.le_of_not_lt h4)
      simp [h1, h4, this]
theorem get_put (x lo wd v : Nat) (hv : v < 2 ^ wd) : getN (putN x lo wd v) lo wd = v := by
  apply Nat.eq_of_testBit_eq
  intro i
  rw [getN_bit, putN_bit _ _ _ _ _ hv]
  by_cases h : i < wd
  · have e : lo + i - lo = i := by omega
    simp [h, e]
  · have := bit_ge hv (Nat.le_of_not_lt h)
    simp [h, this]
theorem bitLenAux_le : ∀ (f n x : Nat), x < 2 ^ f → (Lib.bitLenAux f x ≤ n ↔ x < 2 ^ n)
  | 0, n, x, h => by
    have : x = 0 := by simpa using h
    subst this
    simp [Lib.bitLenAux, Nat.two_pow_pos]
  | f + 1, n, x, h => by
    unfold Lib.bitLenAux
    by_cases hx : x = 0
    · subst hx; simp [Nat.two_pow_pos]
    · rw [if_neg hx]
      cases n with
      | zero => simp [hx]
      | succ n =>
        have := bitLenAux_le f n (x / 2) (by rw [Nat.pow_succ] at h; omega)
        rw [Nat.pow_succ]
        omega
theorem bitLen_le (n x : Nat) (h : x < 18446744073709551616) : Lib.bitLen x ≤ n ↔ x < 2 ^ n := bitLenAux_le 64 n x (by simpa using h)

/-- a number turned round -/
def turnN (v w k : Nat) : Nat := v / 2 ^ k + v % 2 ^ k * 2 ^ (w - k)
theorem turnN_bit (v w k i : Nat) (hv : v < 2 ^ w) (hk : k ≤ w) : (turnN v w k).testBit i = if i < w - k then v.testBit (k + i) else decide (i < w) && v.testBit (i - (w - k)) := by
  have e : turnN v w k = 2 ^ (w - k) * (v % 2 ^ k) + v / 2 ^ k := by unfold turnN; rw [Nat.mul_comm, Nat.add_comm]
  have h : v / 2 ^ k < 2 ^ (w - k) := by
    rw [Nat.div_lt_iff_lt_mul (Nat.two_pow_pos _), ← Nat.pow_add]
    have : w - k + k = w := by omega
    rw [this]; exact hv
  rw [e, Nat.testBit_two_pow_mul_add _ h, Nat.testBit_div_two_pow, Nat.testBit_mod_two_pow]
  split
  · rw [Nat.add_comm]
  · have : (i - (w - k) < k) = (i < w) := by apply propext; omega
    simp only [this]
theorem turnN_lt (v w k : Nat) (hv : v < 2 ^ w) (hk : k ≤ w) : turnN v w k < 2 ^ w := bits_lt fun i hi => by
  rw [turnN_bit _ _ _ _ hv hk]
  split
  · exact bit_ge hv (by omega)
  · have : ¬ i < w := by omega
    simp [this]
theorem turn_bits (v w k n : Nat) (hv : v < 2 ^ w) (hk : k ≤ w) (hw : w ≤ n) : ((v / 2 ^ k ||| v * 2 ^ (w - k) % 2 ^ n) &&& (2 ^ w - 1)) = turnN v w k := by
  apply Nat.eq_of_testBit_eq
  intro i
  rw [turnN_bit _ _ _ _ hv hk, Nat.testBit_and, Nat.testBit_or, Nat.testBit_div_two_pow, Nat.testBit_mod_two_pow, Nat.testBit_mul_two_pow, Nat.testBit_two_pow_sub_one]
  by_cases h1 : i < w - k
  · have a1 : ¬ w - k ≤ i := by omega
    have a2 : i < w := by omega
    simp [h1, a1, a2, Nat.add_comm]
  · by_cases h2 : i < w
    · have a1 : w - k ≤ i := by omega
      have a2 : v.testBit (i + k) = false := bit_ge hv (by omega)
      have a3 : i < n := by omega
      simp [h1, h2, a1, a2, a3]
    · simp [h1, h2]
/-- the bits as a number with a sign -/
def signN (v n : Nat) : Int := if 2 ^ (n - 1) ≤ v % 2 ^ n then ((v % 2 ^ n : Nat) : Int) - ((2 ^ n : Nat) : Int) else ((v % 2 ^ n : Nat) : Int)
theorem sign_bits (v n : Nat) (h1 : 1 ≤ n) (h2 : n ≤ 64) : wrap64 (((v * 2 ^ (64 - n) : Nat) : Int) % 18446744073709551616) / ((2 ^ (64 - n) : Nat) : Int) = signN v n := by
  have e64 : (18446744073709551616 : Nat) = 2 ^ n * 2 ^ (64 - n) := by rw [← Nat.pow_add, show n + (64 - n) = 64 by omega]
  have e63 : (9223372036854775808 : Nat) = 2 ^ (n - 1) * 2 ^ (64 - n) := by rw [← Nat.pow_add, show n - 1 + (64 - n) = 63 by omega]
  have hm : v * 2 ^ (64 - n) % 18446744073709551616 = v % 2 ^ n * 2 ^ (64 - n) := by rw [e64, Nat.mul_mod_mul_right]
  have hp : 0 < 2 ^ (64 - n) := Nat.two_pow_pos _
  have hlt : v % 2 ^ n < 2 ^ n := Nat.mod_lt _ (Nat.two_pow_pos _)
  have c : ((v * 2 ^ (64 - n) : Nat) : Int) % 18446744073709551616 = ((v % 2 ^ n * 2 ^ (64 - n) : Nat) : Int) := by rw [← hm]; omega
  rw [c]
  unfold signN
  generalize v % 2 ^ n = m at *
  have hlt2 : m * 2 ^ (64 - n) < 18446744073709551616 := by rw [e64]; exact Nat.mul_lt_mul_of_pos_right hlt hp
  by_cases h : 2 ^ (n - 1) ≤ m
  · rw [if_pos h]
    have h3 : 9223372036854775808 ≤ m * 2 ^ (64 - n) := by rw [e63]; exact Nat.mul_le_mul_right _ h
    have e : wrap64 ((m * 2 ^ (64 - n) : Nat) : Int) = ((m : Int) - ((2 ^ n : Nat) : Int)) * ((2 ^ (64 - n) : Nat) : Int) := by
      rw [Int.sub_mul, ← Int.natCast_mul, ← Int.natCast_mul, ← e64]
      unfold wrap64
      omega
    rw [e, Int.mul_ediv_cancel _ (by omega)]
  · rw [if_neg h]
    have h3 : m * 2 ^ (64 - n) < 9223372036854775808 := by rw [e63]; exact Nat.mul_lt_mul_of_pos_right (by omega) hp
    have e : wrap64 ((m * 2 ^ (64 - n) : Nat) : Int) = (m : Int) * ((2 ^ (64 - n) : Nat) : Int) := by
      rw [← Int.natCast_mul]; unfold wrap64; omega
    rw [e, Int.mul_ediv_cancel _ (by omega)]
theorem signN_bd (v n : Nat) (h1 : 1 ≤ n) (h2 : n ≤ 64) : -((2 ^ (n - 1) : Nat) : Int) ≤ signN v n ∧ signN v n < ((2 ^ (n - 1) : Nat) : Int) := by
  have hlt : v % 2 ^ n < 2 ^ n := Nat.mod_lt _ (Nat.two_pow_pos _)
  have e : 2 ^ n = 2 * 2 ^ (n - 1) := by rw [← Nat.pow_succ', Nat.succ_eq_add_one, show n - 1 + 1 = n by omega]
  unfold signN
  split <;> omega

theorem mod_step (v k : Nat) : v % 2 ^ (k + 1) = v % 2 ^ k + v / 2 ^ k % 2 * 2 ^ k := by rw [Nat.mod_pow_succ, Nat.mul_comm]
/-- what has been turned round when i bits are over -/
def turnPart (v n k i : Nat) : Nat := if i ≤ k then v % 2 ^ i * 2 ^ (n - k) else v % 2 ^ k * 2 ^ (n - k) + v % 2 ^ i / 2 ^ k
theorem turnPart_zero (v n k : Nat) : turnPart v n k 0 = 0 := by unfold turnPart; simp [Nat.mod_one]
theorem turnPart_ge (v n k i : Nat) (h : k ≤ i) : turnPart v n k i = v % 2 ^ k * 2 ^ (n - k) + v % 2 ^ i / 2 ^ k := by
  unfold turnPart
  split
  · have : i = k := by omega
    subst this
    rw [Nat.div_eq_of_lt (Nat.mod_lt _ (Nat.two_pow_pos _))]; omega
  · rfl
theorem turnPart_last (v n k : Nat) (hv : v < 2 ^ n) (hk : k ≤ n) : turnPart v n k n = turnN v n k := by
  rw [turnPart_ge _ _ _ _ hk, Nat.mod_eq_of_lt hv]; unfold turnN; omega
theorem turnPart_low (v n k i : Nat) (hi : i < k) : turnPart v n k (i + 1) = turnPart v n k i + v / 2 ^ i % 2 * 2 ^ (n - k + i) := by
  have e1 : turnPart v n k (i + 1) = v % 2 ^ (i + 1) * 2 ^ (n - k) := if_pos (by omega)
  have e2 : turnPart v n k i = v % 2 ^ i * 2 ^ (n - k) := if_pos (by omega)
  rw [e1, e2, mod_step, Nat.add_mul, Nat.mul_assoc, ← Nat.pow_add, Nat.add_comm i]
theorem turnPart_high (v n k i : Nat) (hi : k ≤ i) : turnPart v n k (i + 1) = turnPart v n k i + v / 2 ^ i % 2 * 2 ^ (i - k) := by
  rw [turnPart_ge _ _ _ _ hi, turnPart_ge _ _ _ _ (by omega), mod_step]
  have e : 2 ^ i = 2 ^ k * 2 ^ (i - k) := by rw [← Nat.pow_add]; congr 1; omega
  have e2 : v / 2 ^ i % 2 * 2 ^ i = 2 ^ k * (v / 2 ^ i % 2 * 2 ^ (i - k)) := by
    rw [e]
    generalize v / (2 ^ k * 2 ^ (i - k)) % 2 = q
    rw [Nat.mul_left_comm]
  rw [e2, Nat.add_mul_div_left _ _ (Nat.two_pow_pos _)]; omega
theorem turnPart_lt (v n k i : Nat) (hv : v < 2 ^ n) (hk : k ≤ n) : turnPart v n k i < 2 ^ n := by
  have e : 2 ^ n = 2 ^ k * 2 ^ (n - k) := by rw [← Nat.pow_add]; congr 1; omega
  have hp : 0 < 2 ^ (n - k) := Nat.two_pow_pos _
  by_cases h : i ≤ k
  · have e2 : turnPart v n k i = v % 2 ^ i * 2 ^ (n - k) := if_pos h
    rw [e2, e]
    exact Nat.mul_lt_mul_of_pos_right (Nat.lt_of_lt_of_le (Nat.mod_lt _ (Nat.two_pow_pos _)) (npow_le h)) hp
  · rw [turnPart_ge _ _ _ _ (by omega), e]
    have h1 : v % 2 ^ i / 2 ^ k < 2 ^ (n - k) := by
      rw [Nat.div_lt_iff_lt_mul (Nat.two_pow_pos _), Nat.mul_comm, ← e]
      exact Nat.lt_of_le_of_lt (Nat.mod_le _ _) hv
    have h2 : v % 2 ^ k < 2 ^ k := Nat.mod_lt _ (Nat.two_pow_pos _)
    have h3 : (v % 2 ^ k + 1) * 2 ^ (n - k) ≤ 2 ^ k * 2 ^ (n - k) := Nat.mul_le_mul_right _ h2
    rw [Nat.add_mul] at h3
    omega
end Go.Proofs.YtopfaapcekiojaaGreat
