/- The contract of the document's answer, layer 1: Turn. -/
import Derived.Test.YtjojflodhghdbaaRefW1
namespace Go.Proofs.Ytjojflodhghdbaa
open Go.RowKit Go.Sort
attribute [local go_sem] cell_gr frozen_gr
set_option linter.unusedVariables false

theorem low_ok (v n : Int) (hv : U64 v) (h1 : 1 ≤ n) (h2 : n ≤ 64) : (lowI v n != v) = !turnOk v n := by
  obtain ⟨v1, v2⟩ := hv
  unfold lowI turnOk
  by_cases h : 64 ≤ n
  · have e : n = 64 := by omega
    subst e
    rw [if_pos h]
    have : v.toNat < 2 ^ (64 : Int).toNat := by show v.toNat < 2 ^ 64; omega
    simpa using v2
  · rw [if_neg h]
    by_cases hl : v.toNat < 2 ^ n.toNat
    · rw [Nat.mod_eq_of_lt hl, Int.toNat_of_nonneg v1]; simp [hl]
    · have := Nat.mod_lt v.toNat (Nat.two_pow_pos n.toNat)
      have hne : ((v.toNat % 2 ^ n.toNat : Nat) : Int) ≠ v := by omega
      have e1 : (((v.toNat % 2 ^ n.toNat : Nat) : Int) != v) = true := by rw [bne_iff_ne]; exact hne
      rw [e1]; simp [hl]
/-- one round -/
theorem turn_round (v n k : Int) (i : Nat) (hv : v.toNat < 2 ^ n.toNat) (h1 : 1 ≤ n) (h2 : n ≤ 64) (hk0 : 0 ≤ k) (hk : k < n) (hi : (i : Int) < n) (j : Int) (hj : j = (i : Int) - k ∧ 0 ≤ j ∨ j = (i : Int) - k + n ∧ (i : Int) - k < 0) :
    0 ≤ j ∧ j ≤ 63 ∧ 0 ≤ bitI v i * 2 ^ j.toNat ∧ bitI v i * 2 ^ j.toNat ≤ 9223372036854775808 ∧ 0 ≤ ((turnPart v.toNat n.toNat k.toNat i : Nat) : Int) ∧ ((turnPart v.toNat n.toNat k.toNat i : Nat) : Int) + bitI v i * 2 ^ j.toNat ≤ 18446744073709551615 ∧
    ((turnPart v.toNat n.toNat k.toNat i : Nat) : Int) + bitI v i * 2 ^ j.toNat = ((turnPart v.toNat n.toNat k.toNat (i + 1) : Nat) : Int) := by
  have hj0 : 0 ≤ j ∧ j ≤ 63 := by omega
  have e : bitI v i * 2 ^ j.toNat = ((v.toNat / 2 ^ i % 2 * 2 ^ j.toNat : Nat) : Int) := by unfold bitI; rw [ipow, Int.natCast_mul]; rfl
  have hs : turnPart v.toNat n.toNat k.toNat (i + 1) = turnPart v.toNat n.toNat k.toNat i + v.toNat / 2 ^ i % 2 * 2 ^ j.toNat := by
    rcases hj with ⟨hj1, hj2⟩ | ⟨hj1, hj2⟩
    · have : j.toNat = i - k.toNat := by omega
      rw [this]; exact turnPart_high _ _ _ _ (by omega)
    · have : j.toNat = n.toNat - k.toNat + i := by omega
      rw [this]; exact turnPart_low _ _ _ _ (by omega)
  have hlt := turnPart_lt v.toNat n.toNat k.toNat (i + 1) hv (by omega)
  have hle : 2 ^ n.toNat ≤ 2 ^ 64 := npow_le (by omega)
  have hb : v.toNat / 2 ^ i % 2 * 2 ^ j.toNat ≤ 2 ^ 63 := by
    have a : v.toNat / 2 ^ i % 2 ≤ 1 := by omega
    have b := Nat.mul_le_mul_right (2 ^ j.toNat) a
    have c := npow_le (n := j.toNat) (m := 63) (by omega)
    omega
  rw [e, hs]
  rw [hs] at hlt
  generalize v.toNat / 2 ^ i % 2 * 2 ^ j.toNat = q at *
  generalize turnPart v.toNat n.toNat k.toNat i = t at *
  omega
theorem rturn_neg (v n b : Int) (w : World) (hv : U64 v) (h1 : 1 ≤ n) (h2 : n ≤ 64) (h' : turnOk v n = true) (hb : I64 b) (hr : b.tmod n < 0) (hr1 : -n < b.tmod n) (hr2 : b.tmod n < n) :
    Calls Try.prog 22 #[.int .u64 v, .int .i64 n, .int .i64 b] w (Ret (.tuple #[.int .u64 ((turnN v.toNat n.toNat (b.tmod n + n).toNat : Nat) : Int), .int .i64 0]) w) := by
  have cl := fun W => low_same v n W hv ⟨by omega, by omega⟩
  have hlow : (lowI v n != v) = false := by rw [low_ok v n hv h1 h2, h']; rfl
  have hv2 : v.toNat < 2 ^ n.toNat := by simpa [turnOk] using h'
  have T := Lib.hid (turnPart_last v.toNat n.toNat (b.tmod n + n).toNat hv2 (by omega))
  have HV := Lib.hid hv2
  clear hv2 h'
  obtain ⟨b1, b2⟩ := hb
  have k1 : 0 ≤ b.tmod n + n := by omega
  have k2 : b.tmod n + n < n := by omega
  go_enter Try.func22, Try.ntmps22
  go_wp2_with (first
    | (go_at_call 55; refine (cl _).mono ?_; rintro e w1 ⟨rfl, rfl⟩))
  go_loop [8, 9] (fun o i => ∃ t : Nat, t ≤ n.toNat ∧ i = .int .i64 t ∧ o = .int .u64 ((turnPart v.toNat n.toNat (b.tmod n + n).toNat t : Nat) : Int)) (fun _ i => n.toNat - (intOf i).toNat)
  case atStart => exact ⟨0, by omega, rfl, by rw [turnPart_zero]; rfl⟩
  case round =>
    obtain ⟨t, ht, rfl, rfl⟩ := hrel
    by_cases hlt : (t : Int) < n
    · by_cases hj : (t : Int) - (b.tmod n + n) < 0
      · obtain ⟨r1, r2, r3, r4, r5, r6, r7⟩ := turn_round v n (b.tmod n + n) t HV.out h1 h2 k1 k2 hlt ((t : Int) - (b.tmod n + n) + n) (.inr ⟨rfl, hj⟩)
        have bb := bitI_bd v t
        have pp := pow_lt64 ((t : Int) - (b.tmod n + n) + n).toNat (by omega)
        have S := Lib.hid r7
        clear r7
        generalize ((turnPart v.toNat n.toNat (b.tmod n + n).toNat t : Nat) : Int) = acc at *
        go_wp2_with (first
          | (go_at_call 53; refine (bit_same _ _ _ hv ⟨by omega, by omega⟩ (by omega)).mono ?_; rintro e w1 ⟨rfl, rfl⟩)
          | (go_at_call 51; refine (pow_same _ _ ⟨by omega, by omega⟩ (by omega)).mono ?_; rintro e w1 ⟨rfl, rfl⟩))
        go_round
        case rel => exact ⟨t + 1, by omega, by go_num, by rw [← S.out]⟩
        case measure => simp [intOf]; omega
      · obtain ⟨r1, r2, r3, r4, r5, r6, r7⟩ := turn_round v n (b.tmod n + n) t HV.out h1 h2 k1 k2 hlt ((t : Int) - (b.tmod n + n)) (.inl ⟨rfl, by omega⟩)
        have bb := bitI_bd v t
        have pp := pow_lt64 ((t : Int) - (b.tmod n + n)).toNat (by omega)
        have S := Lib.hid r7
        clear r7
        generalize ((turnPart v.toNat n.toNat (b.tmod n + n).toNat t : Nat) : Int) = acc at *
        go_wp2_with (first
          | (go_at_call 53; refine (bit_same _ _ _ hv ⟨by omega, by omega⟩ (by omega)).mono ?_; rintro e w1 ⟨rfl, rfl⟩)
          | (go_at_call 51; refine (pow_same _ _ ⟨by omega, by omega⟩ (by omega)).mono ?_; rintro e w1 ⟨rfl, rfl⟩))
        go_round
        case rel => exact ⟨t + 1, by omega, by go_num, by rw [← S.out]⟩
        case measure => simp [intOf]; omega
    · have ht' : t = n.toNat := by omega
      subst ht'
      go_wp2
      go_ret2
      exact ⟨ret_two (by rw [T.out]) rfl, Below.refl _ _⟩
theorem rturn_pos (v n b : Int) (w : World) (hv : U64 v) (h1 : 1 ≤ n) (h2 : n ≤ 64) (h' : turnOk v n = true) (hb : I64 b) (hr : 0 ≤ b.tmod n) (hr1 : -n < b.tmod n) (hr2 : b.tmod n < n) :
    Calls Try.prog 22 #[.int .u64 v, .int .i64 n, .int .i64 b] w (Ret (.tuple #[.int .u64 ((turnN v.toNat n.toNat (b.tmod n).toNat : Nat) : Int), .int .i64 0]) w) := by
  have cl := fun W => low_same v n W hv ⟨by omega, by omega⟩
  have hlow : (lowI v n != v) = false := by rw [low_ok v n hv h1 h2, h']; rfl
  have hv2 : v.toNat < 2 ^ n.toNat := by simpa [turnOk] using h'
  have T := Lib.hid (turnPart_last v.toNat n.toNat (b.tmod n).toNat hv2 (by omega))
  have HV := Lib.hid hv2
  clear hv2 h'
  obtain ⟨b1, b2⟩ := hb
  have k1 : 0 ≤ b.tmod n := by omega
  have k2 : b.tmod n < n := by omega
  go_enter Try.func22, Try.ntmps22
  go_wp2_with (first
    | (go_at_call 55; refine (cl _).mono ?_; rintro e w1 ⟨rfl, rfl⟩))
  go_loop [8, 9] (fun o i => ∃ t : Nat, t ≤ n.toNat ∧ i = .int .i64 t ∧ o = .int .u64 ((turnPart v.toNat n.toNat (b.tmod n).toNat t : Nat) : Int)) (fun _ i => n.toNat - (intOf i).toNat)
  case atStart => exact ⟨0, by omega, rfl, by rw [turnPart_zero]; rfl⟩
  case round =>
    obtain ⟨t, ht, rfl, rfl⟩ := hrel
    by_cases hlt : (t : Int) < n
    · by_cases hj : (t : Int) - (b.tmod n) < 0
      · obtain ⟨r1, r2, r3, r4, r5, r6, r7⟩ := turn_round v n (b.tmod n) t HV.out h1 h2 k1 k2 hlt ((t : Int) - (b.tmod n) + n) (.inr ⟨rfl, hj⟩)
        have bb := bitI_bd v t
        have pp := pow_lt64 ((t : Int) - (b.tmod n) + n).toNat (by omega)
        have S := Lib.hid r7
        clear r7
        generalize ((turnPart v.toNat n.toNat (b.tmod n).toNat t : Nat) : Int) = acc at *
        go_wp2_with (first
          | (go_at_call 53; refine (bit_same _ _ _ hv ⟨by omega, by omega⟩ (by omega)).mono ?_; rintro e w1 ⟨rfl, rfl⟩)
          | (go_at_call 51; refine (pow_same _ _ ⟨by omega, by omega⟩ (by omega)).mono ?_; rintro e w1 ⟨rfl, rfl⟩))
        go_round
        case rel => exact ⟨t + 1, by omega, by go_num, by rw [← S.out]⟩
        case measure => simp [intOf]; omega
      · obtain ⟨r1, r2, r3, r4, r5, r6, r7⟩ := turn_round v n (b.tmod n) t HV.out h1 h2 k1 k2 hlt ((t : Int) - (b.tmod n)) (.inl ⟨rfl, by omega⟩)
        have bb := bitI_bd v t
        have pp := pow_lt64 ((t : Int) - (b.tmod n)).toNat (by omega)
        have S := Lib.hid r7
        clear r7
        generalize ((turnPart v.toNat n.toNat (b.tmod n).toNat t : Nat) : Int) = acc at *
        go_wp2_with (first
          | (go_at_call 53; refine (bit_same _ _ _ hv ⟨by omega, by omega⟩ (by omega)).mono ?_; rintro e w1 ⟨rfl, rfl⟩)
          | (go_at_call 51; refine (pow_same _ _ ⟨by omega, by omega⟩ (by omega)).mono ?_; rintro e w1 ⟨rfl, rfl⟩))
        go_round
        case rel => exact ⟨t + 1, by omega, by go_num, by rw [← S.out]⟩
        case measure => simp [intOf]; omega
    · have ht' : t = n.toNat := by omega
      subst ht'
      go_wp2
      go_ret2
      exact ⟨ret_two (by rw [T.out]) rfl, Below.refl _ _⟩

theorem rturn_any (v n b : Int) (w : World) (hv : U64 v) (hn : I64 n) (hb : I64 b) : Calls Try.prog 22 #[.int .u64 v, .int .i64 n, .int .i64 b] w (Ret (.tuple #[.int .u64 (turnI v n b), .int .i64 (turnE v n)]) w) := by
  by_cases h : 1 ≤ n ∧ n ≤ 64
  · have hB := (wideB_iff n).2 h
    obtain ⟨h1, h2⟩ := h
    by_cases h' : turnOk v n = true
    · have e : turnE v n = 0 := by unfold turnE; rw [if_pos hB, if_pos h']
      have e' : turnI v n b = ((turnN v.toNat n.toNat (b % n).toNat : Nat) : Int) := by unfold turnI; rw [if_pos (by rw [hB, h']; rfl)]
      obtain ⟨t1, t2, t3, t4⟩ := tmod_emod b n (by omega)
      rw [e, e']
      by_cases hneg : b.tmod n < 0
      · rw [t1 hneg]; exact rturn_neg v n b w hv h1 h2 h' hb hneg t3 t4
      · rw [t2 (by omega)]; exact rturn_pos v n b w hv h1 h2 h' hb (by omega) t3 t4
    · have h' : turnOk v n = false := by simpa using h'
      have e : turnE v n = 7 := by unfold turnE; rw [if_pos hB, if_neg (by rw [h']; decide)]
      have e' : turnI v n b = 0 := by unfold turnI; rw [if_neg (by rw [h']; simp)]
      rw [e, e']
      have cl := fun W => low_same v n W hv hn
      have hlow : (lowI v n != v) = true := by rw [low_ok v n hv h1 h2, h']; rfl
      clear e e' h'
      go_enter Try.func22, Try.ntmps22
      go_wp2_with (first
        | (go_at_call 55; refine (cl _).mono ?_; rintro e w1 ⟨rfl, rfl⟩))
      go_ret2
      exact ⟨rfl, Below.refl _ _⟩
  · have hB : ¬ wideB n = true := fun hh => h ((wideB_iff n).1 hh)
    have e : turnE v n = 10 := by unfold turnE; rw [if_neg hB]
    have e' : turnI v n b = 0 := by unfold turnI; rw [if_neg (by simp [hB])]
    rw [e, e']
    clear e e'
    by_cases h1 : n < 1
    · go_enter Try.func22, Try.ntmps22
      go_wp2
      go_ret2
      exact ⟨rfl, Below.refl _ _⟩
    · have h2 : 64 < n := by omega
      go_enter Try.func22, Try.ntmps22
      go_wp2
      go_ret2
      exact ⟨rfl, Below.refl _ _⟩
end Go.Proofs.Ytjojflodhghdbaa
