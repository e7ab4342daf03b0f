/- The contracts of the document's answer, layer 1: Sign, Ones, Turn, Fits. -/
import Derived.Test.YtddfafapahnaaaaRefW0
import Derived.Test.YtddfafapahnaaaaBitsW1
namespace Go.Proofs.Ytddfafapahnaaaa
open Go.RowKit Go.Sort
attribute [local go_sem] cell_gr frozen_gr
set_option linter.unusedVariables false

theorem bitI_bd (v n : Int) : 0 ≤ bitI v n ∧ bitI v n ≤ 1 := by unfold bitI; omega
theorem pow_lt63 (n : Nat) (h : n < 63) : (1 : Int) ≤ 2 ^ n ∧ (2 : Int) ^ n ≤ 4611686018427387904 := by
  have h1 : (2 : Nat) ^ n ≤ 2 ^ 62 := npow_le (by omega)
  have h2 : 0 < (2 : Nat) ^ n := Nat.two_pow_pos n
  rw [ipow]; omega
theorem sign_step (v : Int) (k : Nat) (hk : k < 63) : 0 ≤ bitI v k * 2 ^ k ∧ bitI v k * 2 ^ k ≤ 4611686018427387904 ∧ ((v.toNat % 2 ^ k : Nat) : Int) + bitI v k * 2 ^ k = ((v.toNat % 2 ^ (k + 1) : Nat) : Int) ∧ ((v.toNat % 2 ^ k : Nat) : Int) < 4611686018427387904 := by
  have h1 : (2 : Nat) ^ k ≤ 2 ^ 62 := npow_le (by omega)
  have h2 : 0 < (2 : Nat) ^ k := Nat.two_pow_pos k
  have h3 : v.toNat % 2 ^ k < 2 ^ k := Nat.mod_lt _ h2
  have e : bitI v k * 2 ^ k = ((v.toNat / 2 ^ k % 2 * 2 ^ k : Nat) : Int) := by unfold bitI; rw [ipow, Int.natCast_mul]; rfl
  have hle : v.toNat / 2 ^ k % 2 * 2 ^ k ≤ 2 ^ k := by
    have : v.toNat / 2 ^ k % 2 ≤ 1 := by omega
    have := Nat.mul_le_mul_right (2 ^ k) this
    omega
  rw [e, mod_step]
  omega
theorem sign_last (v n : Int) (h1 : 1 ≤ n) (h2 : n ≤ 64) : signI v n = if bitI v (n - 1) = 1 then ((v.toNat % 2 ^ (n.toNat - 1) : Nat) : Int) - 2 ^ (n.toNat - 1) else ((v.toNat % 2 ^ (n.toNat - 1) : Nat) : Int) := by
  unfold signI signN bitI
  rw [if_pos ((wideB_iff n).2 ⟨h1, h2⟩)]
  have e1 : n.toNat = n.toNat - 1 + 1 := by omega
  have e2 : (n - 1).toNat = n.toNat - 1 := by omega
  rw [e2]
  generalize n.toNat - 1 = m at *
  rw [e1, mod_step]
  have h3 : v.toNat % 2 ^ m < 2 ^ m := Nat.mod_lt _ (Nat.two_pow_pos _)
  have h4 : v.toNat / 2 ^ m % 2 = 0 ∨ v.toNat / 2 ^ m % 2 = 1 := by omega
  have e3 : 2 ^ (m + 1) = 2 * 2 ^ m := by rw [Nat.pow_succ, Nat.mul_comm]
  have e4 : (2 : Int) ^ m = ((2 ^ m : Nat) : Int) := ipow m
  rw [e3, e4]
  rcases h4 with h4 | h4
  · rw [h4, if_neg (by omega), if_neg (by omega)]; omega
  · rw [h4, if_pos (by omega), if_pos (by omega)]; omega
theorem wrap_low (m p : Int) (h1 : 0 ≤ m) (h2 : m < p) (h3 : p ≤ 9223372036854775808) : wrap64 (m + wrap64 (-1 - wrap64 (wrap64 p - 1))) = m - p := by unfold wrap64; omega
theorem rsign_any (v n : Int) (w : World) (hv : U64 v) (hn : I64 n) : Calls Try.prog 56 #[.int .u64 v, .int .i64 n] w (Ret (.tuple #[.int .i64 (signI v n), .int .i64 (signE n)]) w) := by
  by_cases h : 1 ≤ n ∧ n ≤ 64
  · have e : signE n = 0 := by unfold signE; rw [if_pos ((wideB_iff n).2 h)]
    rw [e]
    obtain ⟨h1, h2⟩ := h
    have L := Lib.hid (sign_last v n h1 h2)
    have hbl := bitI_bd v (n - 1)
    clear e
    go_enter Try.func56, Try.ntmps56
    go_wp2
    go_loop [6, 7] (fun a i => ∃ k : Nat, k ≤ n.toNat - 1 ∧ i = .int .i64 k ∧ a = .int .i64 ((v.toNat % 2 ^ k : Nat) : Int)) (fun _ i => n.toNat - (intOf i).toNat)
    case atStart => exact ⟨0, by omega, rfl, by simp [Nat.mod_one]⟩
    case round =>
      obtain ⟨k, hk, rfl, rfl⟩ := hrel
      by_cases hlt : (k : Int) < n - 1
      · obtain ⟨s1, s2, s3, s4⟩ := sign_step v k (by omega)
        have hbk := bitI_bd v k
        have hp := pow_lt63 k (by omega)
        have S := Lib.hid s3
        have s0 : 0 ≤ ((v.toNat % 2 ^ k : Nat) : Int) := by omega
        clear s3
        generalize ((v.toNat % 2 ^ k : Nat) : Int) = acc at *
        go_wp2_with (first
          | (go_at_call 67; refine (bit_same _ _ _ hv ⟨by omega, by omega⟩ (by omega)).mono ?_; rintro e w1 ⟨rfl, rfl⟩)
          | (go_at_call 58; refine (pow_same _ _ ⟨by omega, by omega⟩ (by omega)).mono ?_; rintro e w1 ⟨rfl, rfl⟩))
        go_round
        case rel => exact ⟨k + 1, by omega, by go_num, by rw [← S.out]⟩
        case measure => simp [intOf]; omega
      · have hk' : k = n.toNat - 1 := by omega
        subst hk'
        have hm0 : 0 ≤ ((v.toNat % 2 ^ (n.toNat - 1) : Nat) : Int) := by omega
        have hm1 : ((v.toNat % 2 ^ (n.toNat - 1) : Nat) : Int) < 2 ^ (n.toNat - 1) := by
          rw [ipow]; have := Nat.mod_lt v.toNat (Nat.two_pow_pos (n.toNat - 1)); omega
        have hp1 := pow_lt64 (n.toNat - 1) (by omega)
        have hp2 : (2 : Int) ^ (n.toNat - 1) ≤ 9223372036854775808 := by
          have := npow_le (n := n.toNat - 1) (m := 63) (by omega)
          rw [ipow]; omega
        have WL := Lib.hid (wrap_low _ _ hm0 hm1 hp2)
        have et : (n - 1).toNat = n.toNat - 1 := by omega
        generalize ((v.toNat % 2 ^ (n.toNat - 1) : Nat) : Int) = acc at *
        by_cases hbt : bitI v (n - 1) = 1
        · have hbt' : (bitI v (n - 1) == 1) = true := by simpa using hbt
          have R : Hid (signI v n = acc - 2 ^ (n.toNat - 1)) := by rw [L.out, if_pos hbt]; exact rfl
          clear L hbt
          go_wp2_with (first
            | (go_at_call 67; refine (bit_same _ _ _ hv ⟨by omega, by omega⟩ (by omega)).mono ?_; rintro e w1 ⟨rfl, rfl⟩)
            | (go_at_call 58; refine (pow_same _ _ ⟨by omega, by omega⟩ (by omega)).mono ?_; rintro e w1 ⟨rfl, rfl⟩))
          go_ret2
          exact ⟨ret_two (by rw [R.out]; exact WL.out) rfl, Below.refl _ _⟩
        · have hbt' : (bitI v (n - 1) == 1) = false := by simpa using hbt
          have R : Hid (signI v n = acc) := by rw [L.out, if_neg hbt]; exact rfl
          clear L hbt
          go_wp2_with (first
            | (go_at_call 67; refine (bit_same _ _ _ hv ⟨by omega, by omega⟩ (by omega)).mono ?_; rintro e w1 ⟨rfl, rfl⟩))
          go_ret2
          exact ⟨ret_two (by rw [R.out]) rfl, Below.refl _ _⟩
  · have hB : ¬ wideB n = true := fun hh => h ((wideB_iff n).1 hh)
    have e : signE n = 10 := by unfold signE; rw [if_neg hB]
    have e' : signI v n = 0 := by unfold signI; rw [if_neg hB]
    rw [e, e']
    clear e e'
    by_cases h1 : n < 1
    · go_enter Try.func56, Try.ntmps56
      go_wp2
      go_ret2
      exact ⟨rfl, Below.refl _ _⟩
    · have h2 : 64 < n := by omega
      go_enter Try.func56, Try.ntmps56
      go_wp2
      go_ret2
      exact ⟨rfl, Below.refl _ _⟩

theorem rfits_any (v n : Int) (s : Bool) (w : World) (hv : I64 v) (hn : I64 n) : Calls Try.prog 63 #[.int .i64 v, .int .i64 n, .bool s] w (Ret (.bool (fitsB v n s)) w) := by
  by_cases h : 1 ≤ n ∧ n ≤ 64
  · cases s with
    | true =>
      rw [fits_s h]
      obtain ⟨h1, h2⟩ := h
      obtain ⟨v1, v2⟩ := hv
      by_cases h64 : n = 64
      · subst h64
        have e : decide (-(2 : Int) ^ ((64 : Int).toNat - 1) ≤ v ∧ v < 2 ^ ((64 : Int).toNat - 1)) = true := by
          have : (2 : Int) ^ ((64 : Int).toNat - 1) = 9223372036854775808 := by rfl
          rw [this]; simp; omega
        rw [e]
        clear e
        go_enter Try.func63, Try.ntmps63
        go_wp2
        go_ret
        exact ⟨rfl, Below.refl _ _⟩
      · have h64' : (n == 64) = false := by simpa using h64
        have hn1 : n ≤ 63 := by omega
        have et : (n - 1).toNat = n.toNat - 1 := by omega
        by_cases hneg : v < 0
        · have e : decide (-1 - v < 2 ^ (n.toNat - 1)) = decide (-(2 : Int) ^ (n.toNat - 1) ≤ v ∧ v < 2 ^ (n.toNat - 1)) := by
            have := Nat.two_pow_pos (n.toNat - 1)
            rw [ipow]; exact decide_eq_decide.2 (by omega)
          have E := Lib.hid e
          clear e h64
          go_enter Try.func63, Try.ntmps63
          go_wp2_with (first
            | (go_at_call 58; refine (pow_any _ _ ⟨by omega, by omega⟩ (by omega)).mono ?_; rintro e w1 ⟨rfl, hb1⟩))
          go_ret
          exact ⟨ret_bool E.out, hb1⟩
        · have v0 : 0 ≤ v := by omega
          have e : decide (v < 2 ^ (n.toNat - 1)) = decide (-(2 : Int) ^ (n.toNat - 1) ≤ v ∧ v < 2 ^ (n.toNat - 1)) := by
            have := Nat.two_pow_pos (n.toNat - 1)
            rw [ipow]; exact decide_eq_decide.2 (by omega)
          have E := Lib.hid e
          clear e h64
          go_enter Try.func63, Try.ntmps63
          go_wp2_with (first
            | (go_at_call 58; refine (pow_any _ _ ⟨by omega, by omega⟩ (by omega)).mono ?_; rintro e w1 ⟨rfl, hb1⟩))
          go_ret
          exact ⟨ret_bool E.out, hb1⟩
    | false =>
      rw [fits_u h]
      obtain ⟨h1, h2⟩ := h
      obtain ⟨v1, v2⟩ := hv
      by_cases hneg : v < 0
      · have e : decide (0 ≤ v ∧ v < 2 ^ n.toNat) = false := by simp; omega
        have e0 : decide (0 ≤ v) = false := by simp; omega
        rw [e]
        clear e
        go_enter Try.func63, Try.ntmps63
        go_wp2
        go_ret
        exact ⟨rfl, Below.refl _ _⟩
      · have v0 : 0 ≤ v := by omega
        have v0' : decide (0 ≤ v) = true := by simp; omega
        by_cases h63 : 63 ≤ n
        · have e : decide (0 ≤ v ∧ v < 2 ^ n.toNat) = true := by
            have := npow_le (n := 63) (m := n.toNat) (by omega)
            rw [ipow]; simp only [decide_eq_true_iff]; omega
          have h63' : decide (63 ≤ n) = true := by simp; omega
          rw [e]
          clear e
          go_enter Try.func63, Try.ntmps63
          go_wp2
          go_ret
          exact ⟨rfl, Below.refl _ _⟩
        · have e : decide (v < 2 ^ n.toNat) = decide (0 ≤ v ∧ v < 2 ^ n.toNat) := decide_eq_decide.2 (by omega)
          have h63' : decide (63 ≤ n) = false := by simp; omega
          have E := Lib.hid e
          clear e
          go_enter Try.func63, Try.ntmps63
          go_wp2_with (first
            | (go_at_call 58; refine (pow_any _ _ ⟨by omega, by omega⟩ (by omega)).mono ?_; rintro e w1 ⟨rfl, hb1⟩))
          go_ret
          exact ⟨ret_bool E.out, hb1⟩
  · rw [fits_no h]
    by_cases h1 : n < 1
    · go_enter Try.func63, Try.ntmps63
      go_wp2
      go_ret
      exact ⟨rfl, Below.refl _ _⟩
    · have h2 : 64 < n := by omega
      go_enter Try.func63, Try.ntmps63
      go_wp2
      go_ret
      exact ⟨rfl, Below.refl _ _⟩
end Go.Proofs.Ytddfafapahnaaaa
