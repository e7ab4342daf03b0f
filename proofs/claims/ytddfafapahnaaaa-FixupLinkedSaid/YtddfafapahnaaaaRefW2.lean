/- The contract of the document's answer, layer 1: Turn. -/
import Derived.Test.YtddfafapahnaaaaRefW1
namespace Go.Proofs.Ytddfafapahnaaaa
open Go.RowKit Go.Sort
attribute [local go_sem] cell_gr frozen_gr
set_option linter.unusedVariables false

theorem low_ok (v n : Int) (hv : U64 v) (h1 : 1 ≤ n) (h2 : n ≤ 64) : (lowI v n != v) = !turnOk v n := by
  obtain ⟨v1, v2⟩ := hv
  unfold lowI turnOk
  by_cases h : 64 ≤ n
  · have e : n = 64 := by omega
    subst e
    rw [if_pos h]
    have : v.toNat < 2 ^ (64 : Int).toNat := by show v.toNat < 2 ^ 64; omega
    simpa using v2
  · rw [if_neg h]
    by_cases hl : v.toNat < 2 ^ n.toNat
    · rw [Nat.mod_eq_of_lt hl, Int.toNat_of_nonneg v1]; simp [hl]
    · have := Nat.mod_lt v.toNat (Nat.two_pow_pos n.toNat)
      have hne : ((v.toNat % 2 ^ n.toNat : Nat) : Int) ≠ v := by omega
      have e1 : (((v.toNat % 2 ^ n.toNat : Nat) : Int) != v) = true := by rw [bne_iff_ne]; exact hne
      rw [e1]; simp [hl]
/-- one round -/
theorem turn_round (v n k : Int) (i : Nat) (hv : v.toNat < 2 ^ n.toNat) (h1 : 1 ≤ n) (h2 : n ≤ 64) (hk0 : 0 ≤ k) (hk : k < n) (hi : (i : Int) < n) (j : Int) (hj : j = (i : Int) - k ∧ 0 ≤ j ∨ j = (i : Int) - k + n ∧ (i : Int) - k < 0) :
    0 ≤ j ∧ j ≤ 63 ∧ 0 ≤ bitI v i * 2 ^ j.toNat ∧ bitI v i * 2 ^ j.toNat ≤ 9223372036854775808 ∧ 0 ≤ ((turnPart v.toNat n.toNat k.toNat i : Nat) : Int) ∧ ((turnPart v.toNat n.toNat k.toNat i : Nat) : Int) + bitI v i * 2 ^ j.toNat ≤ 18446744073709551615 ∧
    ((turnPart v.toNat n.toNat k.toNat i : Nat) : Int) + bitI v i * 2 ^ j.toNat = ((turnPart v.toNat n.toNat k.toNat (i + 1) : Nat) : Int) := by
  have hj0 : 0 ≤ j ∧ j ≤ 63 := by omega
  have e : bitI v i * 2 ^ j.toNat = ((v.toNat / 2 ^ i % 2 * 2 ^ j.toNat : Nat) : Int) := by unfold bitI; rw [ipow, Int.natCast_mul]; rfl
  have hs : turnPart v.toNat n.toNat k.toNat (i + 1) = turnPart v.toNat n.toNat k.toNat i + v.toNat / 2 ^ i % 2 * 2 ^ j.toNat := by
    rcases hj with ⟨hj1, hj2⟩ | ⟨hj1, hj2⟩
    · have : j.toNat = i - k.toNat := by omega
      rw [this]; exact turnPart_high _ _ _ _ (by omega)
    · have : j.toNat = n.toNat - k.toNat + i := by omega
      rw [this]; exact turnPart_low _ _ _ _ (by omega)
  have hlt := turnPart_lt v.toNat n.toNat k.toNat (i + 1) hv (by omega)
  have hle : 2 ^ n.toNat ≤ 2 ^ 64 := npow_le (by omega)
  have hb : v.toNat / 2 ^ i % 2 * 2 ^ j.toNat ≤ 2 ^ 63 := by
    have a : v.toNat / 2 ^ i % 2 ≤ 1 := by omega
    have b := Nat.mul_le_mul_right (2 ^ j.toNat) a
    have c := npow_le (n := j.toNat) (m := 63) (by omega)
    omega
  rw [e, hs]
  rw [hs] at hlt
  generalize v.toNat / 2 ^ i % 2 * 2 ^ j.toNat = q at *
  generalize turnPart v.toNat n.toNat k.toNat i = t at *
  omega
end Go.Proofs.Ytddfafapahnaaaa
