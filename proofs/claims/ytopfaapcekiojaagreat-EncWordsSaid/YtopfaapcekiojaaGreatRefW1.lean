/- The contracts of the document's answer, layer 1: Sign, Ones, Turn, Fits. -/
import Derived.Test.YtopfaapcekiojaaGreatRefW0
import Derived.Test.YtopfaapcekiojaaGreatBitsW1
namespace Go.Proofs.YtopfaapcekiojaaGreat
open Go.RowKit Go.Sort
attribute [local go_sem] cell_gr frozen_gr
set_option linter.unusedVariables false

theorem bitI_bd (v n : Int) : 0 ≤ bitI v n ∧ bitI v n ≤ 1 := by unfold bitI; omega
theorem pow_lt63 (n : Nat) (h : n < 63) : (1 : Int) ≤ 2 ^ n ∧ (2 : Int) ^ n ≤ 4611686018427387904 := by
  have h1 : (2 : Nat) ^ n ≤ 2 ^ 62 := npow_le (by omega)
  have h2 : 0 < (2 : Nat) ^ n := Nat.two_pow_pos n
  rw [ipow]; omega
theorem sign_step (v : Int) (k : Nat) (hk : k < 63) : 0 ≤ bitI v k * 2 ^ k ∧ bitI v k * 2 ^ k ≤ 4611686018427387904 ∧ ((v.toNat % 2 ^ k : Nat) : Int) + bitI v k * 2 ^ k = ((v.toNat % 2 ^ (k + 1) : Nat) : Int) ∧ ((v.toNat % 2 ^ k : Nat) : Int) < 4611686018427387904 := by
  have h1 : (2 : Nat) ^ k ≤ 2 ^ 62 := npow_le (by omega)
  have h2 : 0 < (2 : Nat) ^ k := Nat.two_pow_pos k
  have h3 : v.toNat % 2 ^ k < 2 ^ k := Nat.mod_lt _ h2
  have e : bitI v k * 2 ^ k = ((v.toNat / 2 ^ k % 2 * 2 ^ k : Nat) : Int) := by unfold bitI; rw [ipow, Int.natCast_mul]; rfl
  have hle : v.toNat / 2 ^ k % 2 * 2 ^ k ≤ 2 ^ k := by
    have : v.toNat / 2 ^ k % 2 ≤ 1 := by omega
    have := Nat.mul_le_mul_right (2 ^ k) this
    omega
  rw [e, mod_step]
  omega
theorem sign_last (v n : Int) (h1 : 1 ≤ n) (h2 : n ≤ 64) : signI v n = if bitI v (n - 1) = 1 then ((v.toNat % 2 ^ (n.toNat - 1) : Nat) : Int) - 2 ^ (n.toNat - 1) else ((v.toNat % 2 ^ (n.toNat - 1) : Nat) : Int) := by
  unfold signI signN bitI
  rw [if_pos ((wideB_iff n).2 ⟨h1, h2⟩)]
  have e1 : n.toNat = n.toNat - 1 + 1 := by omega
  have e2 : (n - 1).toNat = n.toNat - 1 := by omega
  rw [e2]
  generalize n.toNat - 1 = m at *
  rw [e1, mod_step]
  have h3 : v.toNat % 2 ^ m < 2 ^ m := Nat.mod_lt _ (Nat.two_pow_pos _)
  have h4 : v.toNat / 2 ^ m % 2 = 0 ∨ v.toNat / 2 ^ m % 2 = 1 := by omega
  have e3 : 2 ^ (m + 1) = 2 * 2 ^ m := by rw [Nat.pow_succ, Nat.mul_comm]
  have e4 : (2 : Int) ^ m = ((2 ^ m : Nat) : Int) := ipow m
  rw [e3, e4]
  rcases h4 with h4 | h4
  · rw [h4, if_neg (by omega), if_neg (by omega)]; omega
  · rw [h4, if_pos (by omega), if_pos (by omega)]; omega
theorem wrap_low (m p : Int) (h1 : 0 ≤ m) (h2 : m < p) (h3 : p ≤ 9223372036854775808) : wrap64 (m + wrap64 (-1 - wrap64 (wrap64 p - 1))) = m - p := by unfold wrap64; omega
end Go.Proofs.YtopfaapcekiojaaGreat
