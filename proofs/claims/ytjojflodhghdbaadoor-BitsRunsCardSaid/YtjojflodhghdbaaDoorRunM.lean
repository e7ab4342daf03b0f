/- The plain laws of runs (no program in sight): the runs of ones of a number, as the reference gathers them bit by bit, and as they are found by their lowest bits. -/
import Derived.Test.YtjojflodhghdbaaDoorBitsM
import Derived.Test.YtjojflodhghdbaaDoorPop
import Derived.Lib.TrailingZeros
namespace Go.Proofs.YtjojflodhghdbaaDoor
open Go.RowKit
set_option linter.unusedVariables false

/-- one bit more: the last run grows, or a new one begins -/
def extR (l : List (Nat × Nat)) (i : Nat) : List (Nat × Nat) := match l.getLast? with
  | some p => if p.1 + p.2 = i then l.dropLast ++ [(p.1, p.2 + 1)] else l ++ [(i, 1)]
  | none => l ++ [(i, 1)]
/-- the runs among the first bits -/
def refR (b : Nat → Bool) : Nat → List (Nat × Nat)
  | 0 => []
  | i + 1 => if b i then extR (refR b i) i else refR b i
theorem extR_new {l : List (Nat × Nat)} {i : Nat} (h : ∀ p, l.getLast? = some p → p.1 + p.2 ≠ i) : extR l i = l ++ [(i, 1)] := by
  unfold extR
  split
  · rename_i p hp; rw [if_neg (h p hp)]
  · rfl
theorem extR_grow (l : List (Nat × Nat)) (a n : Nat) : extR (l ++ [(a, n)]) (a + n) = l ++ [(a, n + 1)] := by
  unfold extR
  rw [List.getLast?_concat]
  simp
theorem refR_zeros {b : Nat → Bool} {p : Nat} : ∀ k, (∀ i, p ≤ i → i < p + k → b i = false) → refR b (p + k) = refR b p
  | 0, _ => rfl
  | k + 1, h => by
    rw [← Nat.add_assoc, refR, h (p + k) (by omega) (by omega)]
    simp only [Bool.false_eq_true, if_false]
    exact refR_zeros k (fun i h1 h2 => h i h1 (by omega))
theorem refR_ones {b : Nat → Bool} {p : Nat} {l : List (Nat × Nat)} (h0 : refR b p = l) (hl : ∀ q, l.getLast? = some q → q.1 + q.2 ≠ p) : ∀ k, (∀ i, p ≤ i → i < p + (k + 1) → b i = true) → refR b (p + (k + 1)) = l ++ [(p, k + 1)]
  | 0, h => by
    rw [← Nat.add_assoc, refR, Nat.add_zero, h p (by omega) (by omega), if_pos rfl, h0, extR_new hl]
  | k + 1, h => by
    rw [← Nat.add_assoc, refR, h (p + (k + 1)) (by omega) (by omega), if_pos rfl, refR_ones h0 hl k (fun i h1 h2 => h i h1 (by omega)), extR_grow]
/-- so far the runs have come: bit p is none of a run -/
def RunsTo (b : Nat → Bool) (p : Nat) (l : List (Nat × Nat)) : Prop := refR b p = l ∧ (l = [] ∨ b p = false) ∧ ∀ q, l.getLast? = some q → q.1 + q.2 ≤ p
theorem runsTo_zero (b : Nat → Bool) : RunsTo b 0 [] := ⟨rfl, .inl rfl, fun q h => by simp at h⟩
theorem runsTo_step {b : Nat → Bool} {p a n : Nat} {l : List (Nat × Nat)} (h : RunsTo b p l) (hpa : p ≤ a) (hz : ∀ i, p ≤ i → i < a → b i = false) (hn : 1 ≤ n) (ho : ∀ i, a ≤ i → i < a + n → b i = true) (he : b (a + n) = false) : RunsTo b (a + n) (l ++ [(a, n)]) := by
  obtain ⟨h1, h2, h3⟩ := h
  have ha : b a = true := ho a (Nat.le_refl _) (by omega)
  have e1 : refR b a = l := by
    have := refR_zeros (b := b) (p := p) (a - p) (fun i h1 h2 => hz i h1 (by omega))
    rw [show p + (a - p) = a by omega] at this
    rw [this, h1]
  have hne : ∀ q, l.getLast? = some q → q.1 + q.2 ≠ a := fun q hq e => by
    have := h3 q hq
    have hp : p = a := by omega
    rcases h2 with h2 | h2
    · rw [h2] at hq; simp at hq
    · rw [hp, ha] at h2; cases h2
  obtain ⟨k, rfl⟩ : ∃ k, n = k + 1 := ⟨n - 1, by omega⟩
  refine ⟨refR_ones e1 hne k ho, .inr he, fun q hq => ?_⟩
  rw [List.getLast?_concat] at hq
  cases hq
  exact Nat.le_refl _
theorem runsTo_end {b : Nat → Bool} {p w : Nat} {l : List (Nat × Nat)} (h : RunsTo b p l) (hp : p ≤ w) (hz : ∀ i, p ≤ i → b i = false) : refR b w = l := by
  have := refR_zeros (b := b) (p := p) (w - p) (fun i h1 _ => hz i h1)
  rw [show p + (w - p) = w by omega] at this
  rw [this, h.1]
/-- the lowest one -/
theorem ctz_bit {x : Nat} (h0 : x ≠ 0) (h : x < 2 ^ 64) : Lib.ctz 64 x < 64 ∧ x.testBit (Lib.ctz 64 x) = true ∧ ∀ i, i < Lib.ctz 64 x → x.testBit i = false := by
  have e : Lib.ctz 64 x = Lib.ctzFrom 64 x := by simp [Lib.ctz, h0]
  rw [e]
  obtain ⟨m, hm, hk⟩ := Lib.ctzFrom_spec 64 x (by omega) h
  generalize Lib.ctzFrom 64 x = k at *
  refine ⟨hk, ?_, fun i hi => ?_⟩
  · rw [hm, Nat.testBit_two_pow_mul]
    simp
  · rw [hm, Nat.testBit_two_pow_mul]
    have : ¬ k ≤ i := by omega
    simp [this]
/-- how many ones lie from bit a on -/
theorem ones_len {x a : Nat} (hx : x < 2 ^ 64) : (∀ i, i < Lib.ctz 64 (2 ^ 64 - 1 - x / 2 ^ a) → x.testBit (a + i) = true) ∧ x.testBit (a + Lib.ctz 64 (2 ^ 64 - 1 - x / 2 ^ a)) = false ∧ (x.testBit a = true → 1 ≤ Lib.ctz 64 (2 ^ 64 - 1 - x / 2 ^ a)) ∧ Lib.ctz 64 (2 ^ 64 - 1 - x / 2 ^ a) ≤ 64 ∧ (x.testBit a = true → a + Lib.ctz 64 (2 ^ 64 - 1 - x / 2 ^ a) ≤ 64) := by
  have hq : x / 2 ^ a < 2 ^ 64 := Nat.lt_of_le_of_lt (Nat.div_le_self _ _) hx
  have hb : ∀ i, i < 64 → (2 ^ 64 - 1 - x / 2 ^ a).testBit i = !x.testBit (a + i) := fun i hi => by
    have := Nat.testBit_two_pow_sub_succ hq i
    rw [show 2 ^ 64 - (x / 2 ^ a + 1) = 2 ^ 64 - 1 - x / 2 ^ a by omega] at this
    rw [this, Nat.testBit_div_two_pow]
    simp [hi, Nat.add_comm]
  have htop : ∀ i, 64 ≤ i → x.testBit i = false := fun i hi => Nat.testBit_lt_two_pow (Nat.lt_of_lt_of_le hx (npow_le hi))
  by_cases h0 : 2 ^ 64 - 1 - x / 2 ^ a = 0
  · rw [h0]
    have e : Lib.ctz 64 0 = 64 := rfl
    rw [e]
    have hall : ∀ i, i < 64 → x.testBit (a + i) = true := fun i hi => by
      have := hb i hi
      rw [h0, Nat.zero_testBit] at this
      simpa using this.symm
    have ha : a = 0 := by
      rcases Nat.eq_zero_or_pos a with h | h
      · exact h
      · have h1 := hall 63 (by decide)
        rw [htop (a + 63) (by omega)] at h1
        cases h1
    subst ha
    exact ⟨hall, htop _ (by decide), fun _ => by decide, Nat.le_refl _, fun _ => by decide⟩
  · have hy : 2 ^ 64 - 1 - x / 2 ^ a < 2 ^ 64 := Nat.lt_of_le_of_lt (Nat.sub_le _ _) (Nat.sub_lt (Nat.two_pow_pos 64) (by decide))
    obtain ⟨c1, c2, c3⟩ := ctz_bit h0 hy
    generalize Lib.ctz 64 (2 ^ 64 - 1 - x / 2 ^ a) = k at *
    have r1 : ∀ i, i < k → x.testBit (a + i) = true := fun i hi => by
      have := hb i (by omega)
      rw [c3 i hi] at this
      simpa using this.symm
    have r2 : x.testBit (a + k) = false := by
      have := hb k c1
      rw [c2] at this
      simpa using this.symm
    have r3 : x.testBit a = true → 1 ≤ k := fun h => by
      rcases Nat.eq_zero_or_pos k with hk | hk
      · rw [hk, Nat.add_zero, h] at r2; cases r2
      · exact hk
    refine ⟨r1, r2, r3, by omega, fun h => ?_⟩
    have hk1 := r3 h
    have := r1 (k - 1) (by omega)
    rcases Nat.lt_or_ge 64 (a + k) with hh | hh
    · rw [htop (a + (k - 1)) (by omega)] at this; cases this
    · exact hh
/-- how long all runs are together -/
def sumR (l : List (Nat × Nat)) : Nat := (l.map (fun p => p.2)).sum
end Go.Proofs.YtjojflodhghdbaaDoor
