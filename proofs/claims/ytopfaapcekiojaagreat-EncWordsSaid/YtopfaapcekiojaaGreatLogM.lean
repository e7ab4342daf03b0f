/- The plain laws of logical immediates (no program in sight): what a pattern's value is, and that a value has one pattern alone. -/
import Derived.Test.YtopfaapcekiojaaGreatBitsM
import Derived.Test.YtopfaapcekiojaaGreatPop
namespace Go.Proofs.YtopfaapcekiojaaGreat
open Go.RowKit
set_option linter.unusedVariables false

/-- the number of the first k bits -/
def natOf (f : Nat → Bool) : Nat → Nat
  | 0 => 0
  | k + 1 => natOf f k + (if f k then 2 ^ k else 0)
theorem natOf_lt (f : Nat → Bool) : ∀ k, natOf f k < 2 ^ k
  | 0 => by simp [natOf]
  | k + 1 => by
    have := natOf_lt f k
    have := Nat.two_pow_pos k
    rw [natOf, Nat.pow_succ]
    split <;> omega
theorem natOf_bit (f : Nat → Bool) : ∀ k i, (natOf f k).testBit i = (decide (i < k) && f i)
  | 0, i => by simp [natOf]
  | k + 1, i => by
    have ih := natOf_bit f k i
    have hl := natOf_lt f k
    rw [natOf]
    by_cases hf : f k
    · rw [if_pos hf, Nat.add_comm]
      by_cases hi : i = k
      · subst hi
        rw [Nat.testBit_two_pow_add_eq, ih]; simp [hf]
      · by_cases hik : i < k
        · rw [Nat.testBit_two_pow_add_gt (by omega), ih]
          have : i < k + 1 := by omega
          simp [hik, this]
        · have : 2 ^ k + natOf f k < 2 ^ i := by
            have := npow_le (show k + 1 ≤ i by omega)
            rw [Nat.pow_succ] at this
            omega
          rw [Nat.testBit_lt_two_pow this]
          have : ¬ i < k + 1 := by omega
          simp [this]
    · rw [if_neg hf, Nat.add_zero, ih]
      by_cases hi : i = k
      · subst hi; simp at hf; simp [hf]
      · have : (i < k) = (i < k + 1) := by apply propext; omega
        simp [this]
theorem natOf_or (f : Nat → Bool) (k : Nat) : natOf f k ||| 2 ^ k = natOf f k + 2 ^ k := by
  have := Nat.two_pow_add_eq_or_of_lt (natOf_lt f k) 1
  rw [Nat.mul_one] at this
  rw [Nat.or_comm, ← this, Nat.add_comm]

/-- is the bit of a pattern's value a one? -/
def oneAt (s o t i : Nat) : Bool := decide ((i % s + t) % s < o)
/-- a pattern's value -/
def valN (s o t w : Nat) : Nat := natOf (oneAt s o t) w
/-- a size of elements -/
def Sz (s : Nat) : Prop := s = 2 ∨ s = 4 ∨ s = 8 ∨ s = 16 ∨ s = 32 ∨ s = 64
/-- a pattern of a width -/
def Pat (s o t w : Nat) : Prop := Sz s ∧ s ≤ w ∧ 1 ≤ o ∧ o < s ∧ t < s
theorem oneAt_eq (s o t i : Nat) : oneAt s o t i = decide ((i + t) % s < o) := by unfold oneAt; rw [Nat.mod_add_mod]
theorem oneAt_mod (s o t i : Nat) : oneAt s o t (i % s) = oneAt s o t i := by unfold oneAt; rw [Nat.mod_mod]
theorem oneAt_add (s o t i k : Nat) (h : s ∣ k) : oneAt s o t (k + i) = oneAt s o t i := by
  unfold oneAt
  obtain ⟨m, rfl⟩ := h
  rw [Nat.mul_add_mod]
theorem sz_dvd {s w : Nat} (hs : Sz s) (hw : w = 32 ∨ w = 64) (h : s ≤ w) : s ∣ w := by
  rcases hs with rfl | rfl | rfl | rfl | rfl | rfl <;> rcases hw with rfl | rfl <;> first | decide | omega
theorem sz_dvd2 {s s' : Nat} (hs : Sz s) (hs' : Sz s') (h : s ≤ s') : s ∣ s' := by
  rcases hs with rfl | rfl | rfl | rfl | rfl | rfl <;> rcases hs' with rfl | rfl | rfl | rfl | rfl | rfl <;> first | decide | omega
theorem valN_bits {s o t w s' o' t' : Nat} (hs : s ∣ w) (hs' : s' ∣ w) (hw : 0 < w) (h : valN s o t w = valN s' o' t' w) (i : Nat) : oneAt s o t i = oneAt s' o' t' i := by
  have e : ∀ j, j < w → oneAt s o t j = oneAt s' o' t' j := fun j hj => by
    have := congrArg (fun x => Nat.testBit x j) h
    simpa [valN, natOf_bit, hj] using this
  have h1 := e (i % w) (Nat.mod_lt _ hw)
  have d := Nat.div_add_mod i w
  have a := oneAt_add s o t (i % w) (w * (i / w)) (Nat.dvd_trans hs (Nat.dvd_mul_right _ _))
  have b := oneAt_add s' o' t' (i % w) (w * (i / w)) (Nat.dvd_trans hs' (Nat.dvd_mul_right _ _))
  rw [d] at a b
  rw [a, b, h1]
/-- no less period than its size -/
theorem no_less {s s' o t : Nat} (hs : 0 < s) (hd : s ∣ s') (hlt : s < s') (ho : 1 ≤ o) (ho' : o < s') (ht : t < s') (h : ∀ i, oneAt s' o t (i + s) = oneAt s' o t i) : False := by
  have J : ∀ j, decide ((j + s) % s' < o) = decide (j % s' < o) := fun j => by
    have := h (j + (s' - t))
    rw [oneAt_eq, oneAt_eq] at this
    have e1 : j + (s' - t) + s + t = (j + s) + s' := by omega
    have e2 : j + (s' - t) + t = j + s' := by omega
    rwa [e1, e2, Nat.add_mod_right, Nat.add_mod_right] at this
  have K : ∀ k j, decide ((j + k * s) % s' < o) = decide (j % s' < o) := fun k => by
    induction k with
    | zero => intro j; simp
    | succ k ih => intro j; rw [Nat.succ_mul, ← Nat.add_assoc, J, ih]
  obtain ⟨m, rfl⟩ := hd
  have hm : 2 ≤ m := by
    rcases m with _ | _ | m
    · omega
    · omega
    · omega
  obtain ⟨k, rfl⟩ : ∃ k, m = k + 2 := ⟨m - 2, by omega⟩
  have e : s * (k + 2) = (k + 1) * s + s := by rw [Nat.mul_comm, ← Nat.succ_mul]
  have p : s ≤ (k + 1) * s := by rw [Nat.succ_mul]; omega
  have a := K (k + 1) 0
  have b := K (k + 1) (s - 1)
  rw [Nat.mod_eq_of_lt (show 0 + (k + 1) * s < s * (k + 2) by omega), Nat.zero_mod] at a
  rw [Nat.mod_eq_of_lt (show s - 1 + (k + 1) * s < s * (k + 2) by omega), Nat.mod_eq_of_lt (show s - 1 < s * (k + 2) by omega)] at b
  simp only [decide_eq_decide] at a b
  omega
theorem same_turn {s o t o' t' : Nat} (ho : 1 ≤ o) (hos : o < s) (ho' : 1 ≤ o') (hos' : o' < s) (ht : t < s) (ht' : t' < s) (h : ∀ i, oneAt s o t i = oneAt s o' t' i) : t = t' := by
  have J : ∀ j, decide (j % s < o) = decide ((j + (t' + (s - t))) % s < o') := fun j => by
    have := h (j + (s - t))
    rw [oneAt_eq, oneAt_eq] at this
    have e1 : j + (s - t) + t = j + s := by omega
    have e2 : j + (s - t) + t' = j + (t' + (s - t)) := by omega
    rwa [e1, e2, Nat.add_mod_right] at this
  have a := J 0
  have b := J (s - 1)
  rw [Nat.zero_mod, Nat.zero_add] at a
  rw [Nat.mod_eq_of_lt (by omega)] at b
  simp only [decide_eq_decide] at a b
  by_cases hc : t ≤ t'
  · by_cases hc' : t = t'
    · exact hc'
    · have e1 : (t' + (s - t)) % s = t' - t := by
        have : t' + (s - t) = (t' - t) + s := by omega
        rw [this, Nat.add_mod_right, Nat.mod_eq_of_lt (by omega)]
      have e2 : (s - 1 + (t' + (s - t))) % s = t' - t - 1 := by
        have : s - 1 + (t' + (s - t)) = (t' - t - 1) + s + s := by omega
        rw [this, Nat.add_mod_right, Nat.add_mod_right, Nat.mod_eq_of_lt (by omega)]
      rw [e1] at a; rw [e2] at b
      omega
  · have e1 : (t' + (s - t)) % s = t' + (s - t) := Nat.mod_eq_of_lt (by omega)
    have e2 : (s - 1 + (t' + (s - t))) % s = t' + (s - t) - 1 := by
      have : s - 1 + (t' + (s - t)) = (t' + (s - t) - 1) + s := by omega
      rw [this, Nat.add_mod_right, Nat.mod_eq_of_lt (by omega)]
    rw [e1] at a; rw [e2] at b
    omega
theorem same_ones {s o t o' : Nat} (hos : o < s) (hos' : o' < s) (ht : t < s) (h : ∀ i, oneAt s o t i = oneAt s o' t i) : o = o' := by
  have J : ∀ j, decide (j % s < o) = decide (j % s < o') := fun j => by
    have := h (j + (s - t))
    rw [oneAt_eq, oneAt_eq] at this
    have e1 : j + (s - t) + t = j + s := by omega
    rwa [e1, Nat.add_mod_right] at this
  have a := J o
  have b := J o'
  rw [Nat.mod_eq_of_lt hos] at a
  rw [Nat.mod_eq_of_lt hos'] at b
  simp only [decide_eq_decide] at a b
  omega
/-- a value has one pattern alone -/
theorem pat_one {w s o t s' o' t' : Nat} (hw : w = 32 ∨ w = 64) (h : Pat s o t w) (h' : Pat s' o' t' w) (e : valN s o t w = valN s' o' t' w) : s = s' ∧ o = o' ∧ t = t' := by
  obtain ⟨a1, a2, a3, a4, a5⟩ := h
  obtain ⟨b1, b2, b3, b4, b5⟩ := h'
  have hb := valN_bits (sz_dvd a1 hw a2) (sz_dvd b1 hw b2) (by omega) e
  have key : ∀ {s o t s' o' t' : Nat}, Sz s → Sz s' → 1 ≤ o' → o' < s' → t' < s' → (∀ i, oneAt s o t i = oneAt s' o' t' i) → ¬ s < s' := fun hs hs' c1 c2 c3 hb hlt =>
    no_less (by rcases hs with rfl | rfl | rfl | rfl | rfl | rfl <;> decide) (sz_dvd2 hs hs' (by omega)) hlt c1 c2 c3 (fun i => by rw [← hb, ← hb, Nat.add_comm, oneAt_add _ _ _ _ _ (Nat.dvd_refl _)])
  have n1 := key a1 b1 b3 b4 b5 hb
  have n2 := key b1 a1 a3 a4 a5 (fun i => (hb i).symm)
  obtain rfl : s = s' := by omega
  obtain rfl := same_turn a3 a4 b3 b4 a5 b5 hb
  exact ⟨rfl, same_ones a4 b4 a5 hb, rfl⟩

/-- an element, and its value -/
theorem valN_elem (s o t : Nat) (ho : o ≤ s) (ht : t < s) : valN s o t s = turnN (2 ^ o - 1) s t := by
  have hr : 2 ^ o - 1 < 2 ^ s := by
    have := npow_le ho
    have := Nat.two_pow_pos o
    omega
  apply Nat.eq_of_testBit_eq
  intro i
  rw [turnN_bit _ _ _ _ hr (by omega), valN, natOf_bit, Nat.testBit_two_pow_sub_one, Nat.testBit_two_pow_sub_one]
  by_cases hi : i < s
  · rw [oneAt_eq]
    by_cases h1 : i < s - t
    · rw [if_pos h1, Nat.mod_eq_of_lt (by omega), Nat.add_comm i t]; simp [hi]
    · rw [if_neg h1]
      have : i + t = (i - (s - t)) + s := by omega
      rw [this, Nat.add_mod_right, Nat.mod_eq_of_lt (by omega)]
  · rw [if_neg (by omega)]; simp [hi]
/-- one element more -/
theorem valN_more (s o t a : Nat) (h : s ∣ a) : valN s o t (a + s) = valN s o t a ||| valN s o t s * 2 ^ a := by
  apply Nat.eq_of_testBit_eq
  intro i
  rw [Nat.testBit_or, Nat.testBit_mul_two_pow, valN, valN, valN, natOf_bit, natOf_bit, natOf_bit]
  by_cases hi : i < a
  · have h1 : i < a + s := by omega
    have h2 : ¬ a ≤ i := by omega
    simp [hi, h1, h2]
  · have h2 : a ≤ i := by omega
    have e := oneAt_add s o t (i - a) a h
    have e2 : a + (i - a) = i := by omega
    rw [e2] at e
    have h3 : (i - a < s) = (i < a + s) := by apply propext; omega
    simp only [hi, h2, h3, e, decide_true, decide_false, Bool.false_and, Bool.true_and, Bool.false_or]
end Go.Proofs.YtopfaapcekiojaaGreat
