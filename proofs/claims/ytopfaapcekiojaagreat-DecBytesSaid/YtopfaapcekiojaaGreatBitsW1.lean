/- The contracts of the program's package bits: Sign, Fits, Turn. -/
import Derived.Test.YtopfaapcekiojaaGreatBitsW0
namespace Go.Proofs.YtopfaapcekiojaaGreat
open Go.RowKit Go.Sort
attribute [local go_sem] cell_gr frozen_gr
set_option linter.unusedVariables false

/-- may a width be? -/
def wideB (n : Int) : Bool := decide (1 ≤ n) && decide (n ≤ 64)
theorem wideB_iff (n : Int) : wideB n = true ↔ 1 ≤ n ∧ n ≤ 64 := by simp [wideB]
def signI (v n : Int) : Int := if wideB n then signN v.toNat n.toNat else 0
def signE (n : Int) : Int := if wideB n then 0 else 10
theorem sign_fact (v n : Int) (hv : U64 v) (h1 : 1 ≤ n) (h2 : n ≤ 64) : wrap64 (IntKind.u64.wrap (v * 2 ^ (64 - n).toNat)) / 2 ^ (64 - n).toNat = signI v n := by
  obtain ⟨v1, v2⟩ := hv
  have e : (64 - n).toNat = 64 - n.toNat := by omega
  have ev : v * ((2 ^ (64 - n.toNat) : Nat) : Int) = ((v.toNat * 2 ^ (64 - n.toNat) : Nat) : Int) := by rw [Int.natCast_mul, Int.toNat_of_nonneg v1]
  unfold signI
  rw [if_pos ((wideB_iff n).2 ⟨h1, h2⟩), e, ipow, ev, IntKind.wrap_u64]
  exact sign_bits v.toNat n.toNat (by omega) (by omega)
theorem sign_any (v n : Int) (w : World) (hv : U64 v) (hn : I64 n) : Calls Tryz.prog 130 #[.int .u64 v, .int .i64 n] w (Ret (.tuple #[.int .i64 (signI v n), .int .i64 (signE n)]) w) := by
  by_cases h : 1 ≤ n ∧ n ≤ 64
  · have E := Lib.hid (sign_fact v n hv h.1 h.2)
    obtain ⟨v1, v2⟩ := hv
    have e : signE n = 0 := by unfold signE; rw [if_pos ((wideB_iff n).2 h)]
    rw [e]
    obtain ⟨h1, h2⟩ := h
    clear e
    go_enter Tryz.func130, Tryz.ntmps130
    go_wp2
    go_ret2
    exact ⟨ret_two E.out rfl, Below.refl _ _⟩
  · have hB : ¬ wideB n = true := fun hh => h ((wideB_iff n).1 hh)
    have e : signE n = 10 := by unfold signE; rw [if_neg hB]
    have e' : signI v n = 0 := by unfold signI; rw [if_neg hB]
    rw [e, e']
    clear e e'
    by_cases h1 : n < 1
    · go_enter Tryz.func130, Tryz.ntmps130
      go_wp2
      go_ret2
      exact ⟨rfl, Below.refl _ _⟩
    · have h2 : 64 < n := by omega
      go_enter Tryz.func130, Tryz.ntmps130
      go_wp2
      go_ret2
      exact ⟨rfl, Below.refl _ _⟩

/-- does a number turned round come? -/
def turnOk (v n : Int) : Bool := decide (v.toNat < 2 ^ n.toNat)
def turnI (v n k : Int) : Int := if wideB n && turnOk v n then ((turnN v.toNat n.toNat (k % n).toNat : Nat) : Int) else 0
def turnE (v n : Int) : Int := if wideB n then if turnOk v n then 0 else 7 else 10
theorem turn_fact (v n k : Int) (hv : U64 v) (h1 : 1 ≤ n) (h2 : n ≤ 64) (h' : turnOk v n = true) (hk1 : 0 ≤ k) (hk2 : k < n) :
    bits BinOp.and IntKind.u64 (bits BinOp.or IntKind.u64 (v / 2 ^ k.toNat) (IntKind.u64.wrap (v * 2 ^ (n - k).toNat))) (onesI n) = ((turnN v.toNat n.toNat k.toNat : Nat) : Int) := by
  obtain ⟨v1, v2⟩ := hv
  have hv : v.toNat < 2 ^ n.toNat := by simpa [turnOk] using h'
  have e : (n - k).toNat = n.toNat - k.toNat := by omega
  have ed : v / 2 ^ k.toNat = ((v.toNat / 2 ^ k.toNat : Nat) : Int) := by rw [ipow, Int.natCast_ediv, Int.toNat_of_nonneg v1]
  have em : IntKind.u64.wrap (v * 2 ^ (n - k).toNat) = ((v.toNat * 2 ^ (n.toNat - k.toNat) % 2 ^ 64 : Nat) : Int) := by
    rw [IntKind.wrap_u64, e, ipow, Int.natCast_emod, Int.natCast_mul, Int.toNat_of_nonneg v1]; rfl
  have hd : v.toNat / 2 ^ k.toNat < 2 ^ 64 := Nat.lt_of_le_of_lt (Nat.div_le_self _ _) (by omega)
  have hm : v.toNat * 2 ^ (n.toNat - k.toNat) % 2 ^ 64 < 2 ^ 64 := Nat.mod_lt _ (by decide)
  have ho : v.toNat / 2 ^ k.toNat ||| v.toNat * 2 ^ (n.toNat - k.toNat) % 2 ^ 64 < 2 ^ 64 := Nat.or_lt_two_pow hd hm
  have hones : onesI n = ((2 ^ n.toNat - 1 : Nat) : Int) := by
    by_cases h : n < 64
    · exact onesI_nat n h
    · have : n = 64 := by omega
      subst this; rfl
  have hon : 2 ^ n.toNat - 1 < 2 ^ 64 := by
    have := npow_le (n := n.toNat) (m := 64) (by omega)
    have := Nat.two_pow_pos n.toNat
    omega
  have k64 : (2 : Nat) ^ 64 = 18446744073709551616 := by decide
  rw [k64] at hd hm ho hon
  rw [k64] at em
  rw [ed, em, hones, u64_or_nat _ _ hd hm, u64_and_nat _ _ ho hon]
  rw [← k64]
  exact congrArg Nat.cast (turn_bits v.toNat n.toNat k.toNat 64 hv (by omega) (by omega))
theorem turnOk_len (v n : Int) (hv : U64 v) (hn : 0 ≤ n) : turnOk v n = !decide (n < ((Lib.bitLen v.toNat : Nat) : Int)) := by
  obtain ⟨v1, v2⟩ := hv
  have := bitLen_le n.toNat v.toNat (by omega)
  unfold turnOk
  rw [← decide_not]
  exact decide_eq_decide.2 (by omega)
theorem tmod_emod (b n : Int) (hn : 0 < n) : (b.tmod n < 0 → b % n = b.tmod n + n) ∧ (0 ≤ b.tmod n → b % n = b.tmod n) ∧ -n < b.tmod n ∧ b.tmod n < n := by
  have h1 := Int.emod_nonneg b (by omega : n ≠ 0)
  have h2 := Int.emod_lt_of_pos b hn
  have h3 := Int.tmod_lt_of_pos b hn
  have h4 : -n < b.tmod n := by
    rcases Int.le_total 0 b with h | h
    · have := Int.tmod_nonneg n h; omega
    · have := Int.tmod_lt_of_pos (-b) hn
      rw [Int.neg_tmod] at this; omega
  have h5 := Int.tmod_add_mul_tdiv b n
  have h6 := Int.emod_add_mul_ediv b n
  have key : ∃ q : Int, b % n = b.tmod n + n * q := ⟨b.tdiv n - b / n, by rw [Int.mul_sub]; omega⟩
  obtain ⟨q, hq⟩ := key
  refine ⟨fun hneg => ?_, fun hpos => ?_, h4, h3⟩
  · have hq1 : 0 < q := by
      rcases Int.lt_or_le 0 q with h | h
      · exact h
      · have : n * q ≤ 0 := Int.mul_nonpos_of_nonneg_of_nonpos (by omega) h
        omega
    have hq2 : q < 2 := by
      rcases Int.lt_or_le q 2 with h | h
      · exact h
      · have : n * 2 ≤ n * q := Int.mul_le_mul_of_nonneg_left h (by omega)
        omega
    have : q = 1 := by omega
    subst this; omega
  · have hq1 : -1 < q := by
      rcases Int.lt_or_le (-1) q with h | h
      · exact h
      · have : n * q ≤ n * (-1) := Int.mul_le_mul_of_nonneg_left h (by omega)
        omega
    have hq2 : q < 1 := by
      rcases Int.lt_or_le q 1 with h | h
      · exact h
      · have : n * 1 ≤ n * q := Int.mul_le_mul_of_nonneg_left h (by omega)
        omega
    have : q = 0 := by omega
    subst this; omega
/-- does a number fit? -/
def fitsB (v n : Int) (s : Bool) : Bool := wideB n && if s then decide (-(2 : Int) ^ (n.toNat - 1) ≤ v ∧ v < 2 ^ (n.toNat - 1)) else decide (0 ≤ v ∧ v < 2 ^ n.toNat)
theorem fits_no {v n : Int} {s : Bool} (h : ¬ (1 ≤ n ∧ n ≤ 64)) : fitsB v n s = false := by
  have hB : wideB n = false := by rw [Bool.eq_false_iff]; exact fun hh => h ((wideB_iff n).1 hh)
  unfold fitsB; rw [hB]; rfl
theorem fits_u {v n : Int} (h : 1 ≤ n ∧ n ≤ 64) : fitsB v n false = decide (0 ≤ v ∧ v < 2 ^ n.toNat) := by unfold fitsB; rw [(wideB_iff n).2 h]; simp
theorem fits_s {v n : Int} (h : 1 ≤ n ∧ n ≤ 64) : fitsB v n true = decide (-(2 : Int) ^ (n.toNat - 1) ≤ v ∧ v < 2 ^ (n.toNat - 1)) := by unfold fitsB; rw [(wideB_iff n).2 h]; simp
theorem u64w (v : Int) : U64 (IntKind.u64.wrap v) := by rw [IntKind.wrap_u64]; exact ⟨by omega, by omega⟩
/-- a number's own bits as a number with a sign -/
theorem sign_own (v n : Int) (h1 : 1 ≤ n) (h2 : n ≤ 64) (hv : I64 v) : (signI (IntKind.u64.wrap v) n == v) = fitsB v n true := by
  rw [fits_s ⟨h1, h2⟩]
  have hb := signN_bd (IntKind.u64.wrap v).toNat n.toNat (by omega) (by omega)
  have eI : signI (IntKind.u64.wrap v) n = signN (IntKind.u64.wrap v).toNat n.toNat := by unfold signI; rw [if_pos ((wideB_iff n).2 ⟨h1, h2⟩)]
  rw [eI, ipow]
  rw [Bool.eq_iff_iff, beq_iff_eq, decide_eq_true_iff]
  constructor
  · intro h; rw [h] at hb; exact hb
  · rintro ⟨g1, g2⟩
    obtain ⟨i1, i2⟩ := hv
    have e64 : (18446744073709551616 : Nat) = 2 ^ n.toNat * 2 ^ (64 - n.toNat) := by rw [← Nat.pow_add, show n.toNat + (64 - n.toNat) = 64 by omega]
    have en : 2 ^ n.toNat = 2 * 2 ^ (n.toNat - 1) := by rw [← Nat.pow_succ', Nat.succ_eq_add_one, show n.toNat - 1 + 1 = n.toNat by omega]
    have hp : 0 < 2 ^ (64 - n.toNat) := Nat.two_pow_pos _
    have hle : 2 ^ n.toNat ≤ 18446744073709551616 := by rw [e64]; exact Nat.le_mul_of_pos_right _ hp
    unfold signN
    rcases Int.lt_or_le v 0 with hneg | hpos
    · have hm : (IntKind.u64.wrap v).toNat % 2 ^ n.toNat = (v + ((2 ^ n.toNat : Nat) : Int)).toNat := by
        have e1 : (IntKind.u64.wrap v).toNat = (v + ((2 ^ n.toNat : Nat) : Int)).toNat + 2 ^ n.toNat * (2 ^ (64 - n.toNat) - 1) := by
          rw [Nat.mul_sub, ← e64, Nat.mul_one, IntKind.wrap_u64]; omega
        rw [e1, Nat.add_mul_mod_self_left, Nat.mod_eq_of_lt (by omega)]
      rw [hm, if_pos (by omega)]; omega
    · have hm : (IntKind.u64.wrap v).toNat % 2 ^ n.toNat = v.toNat := by
        rw [IntKind.wrap_u64, Nat.mod_eq_of_lt (by omega)]; omega
      rw [hm, if_neg (by omega)]; omega
end Go.Proofs.YtopfaapcekiojaaGreat
