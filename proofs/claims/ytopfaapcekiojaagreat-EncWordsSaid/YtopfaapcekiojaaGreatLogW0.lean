/- Logical immediates: may a pattern be, and what is its value. -/
import Derived.Test.YtopfaapcekiojaaGreatBase
import Derived.Test.YtopfaapcekiojaaGreatLogM
import Derived.Outline
namespace Go.Proofs.YtopfaapcekiojaaGreat
open Go.RowKit Go.Sort
attribute [local go_sem] cell_gr frozen_gr
set_option linter.unusedVariables false

def mayB (s o t w : Int) : Bool := decide (2 ≤ s) && decide (s ≤ w) && decide (1 ≤ o) && decide (o < s) && decide (0 ≤ t) && decide (t < s)
theorem mayB_iff (s o t w : Int) : mayB s o t w = true ↔ 2 ≤ s ∧ s ≤ w ∧ 1 ≤ o ∧ o < s ∧ 0 ≤ t ∧ t < s := by simp [mayB, and_assoc]
theorem mayB_not {s o t w : Int} (h : ¬ (2 ≤ s ∧ s ≤ w ∧ 1 ≤ o ∧ o < s ∧ 0 ≤ t ∧ t < s)) : mayB s o t w = false := by
  rw [Bool.eq_false_iff]; intro h'; exact h ((mayB_iff s o t w).1 h')
theorem may_any (s o t w : Int) (W : World) : Calls Tryz.prog 167 #[.agg #[.int .i64 s, .int .i64 o, .int .i64 t], .int .i64 w] W (Ret (.bool (mayB s o t w)) W) := by
  by_cases h : 2 ≤ s ∧ s ≤ w ∧ 1 ≤ o ∧ o < s ∧ 0 ≤ t ∧ t < s
  · rw [(mayB_iff s o t w).2 h]
    obtain ⟨g1, g2, g3, g4, g5, g6⟩ := h
    go_enter Tryz.func167, Tryz.ntmps167
    go_wp2
    go_ret
    exact ⟨by simp, bnew _ _⟩
  · rw [mayB_not h]
    go_enter Tryz.func167, Tryz.ntmps167
    go_wp2
    all_goals (go_ret; exact ⟨by simp; try omega, bnew _ _⟩)
theorem run_fact (o : Nat) (ho : o < 64) : IntKind.u64.wrap (IntKind.u64.wrap (2 ^ o) - 1) = ((2 ^ o - 1 : Nat) : Int) := by
  have := pow_lt64 o ho
  rw [IntKind.wrap_u64, IntKind.wrap_u64]
  have e := ipow o
  have := Nat.two_pow_pos o
  omega
theorem lt64 {x k : Nat} (h : x < 2 ^ k) (hk : k ≤ 64) : x < 18446744073709551616 := Nat.lt_of_lt_of_le h (npow_le hk)
theorem raw_fact (s o t : Nat) (hs : s ≤ 64) (ho : o < s) (ht : t < s) :
    bits BinOp.or IntKind.u64 (((2 ^ o - 1 : Nat) : Int) / 2 ^ t) (IntKind.u64.wrap (((2 ^ o - 1 : Nat) : Int) * 2 ^ (s - t))) = (((2 ^ o - 1) / 2 ^ t ||| (2 ^ o - 1) * 2 ^ (s - t) % 2 ^ 64 : Nat) : Int) := by
  have h1 : 2 ^ o - 1 < 18446744073709551616 := lt64 (k := o) (by have := Nat.two_pow_pos o; omega) (by omega)
  rw [ipow, ipow, ← Int.natCast_ediv, ← Int.natCast_mul, IntKind.wrap_u64]
  have e : (((2 ^ o - 1) * 2 ^ (s - t) : Nat) : Int) % 18446744073709551616 = (((2 ^ o - 1) * 2 ^ (s - t) % 2 ^ 64 : Nat) : Int) := by
    rw [Int.natCast_emod]; rfl
  rw [e]
  exact u64_or_nat _ _ (Nat.lt_of_le_of_lt (Nat.div_le_self _ _) h1) (Nat.mod_lt _ (by decide))
theorem el_low (s o t : Nat) (hs : s < 64) (ho : o < s) (ht : t < s) :
    bits BinOp.and IntKind.u64 (((2 ^ o - 1) / 2 ^ t ||| (2 ^ o - 1) * 2 ^ (s - t) % 2 ^ 64 : Nat) : Int) (IntKind.u64.wrap (IntKind.u64.wrap (2 ^ s) - 1)) = ((valN s o t s : Nat) : Int) := by
  rw [run_fact s hs, u64_and_nat, turn_bits _ _ _ _ (by have := npow_le (Nat.le_of_lt ho); have := Nat.two_pow_pos o; omega) (by omega) (by omega), valN_elem _ _ _ (by omega) ht]
  · exact Nat.or_lt_two_pow (n := 64) (Nat.lt_of_le_of_lt (Nat.div_le_self _ _) (lt64 (k := o) (by have := Nat.two_pow_pos o; omega) (by omega))) (Nat.mod_lt _ (by decide))
  · exact lt64 (k := s) (by have := Nat.two_pow_pos s; omega) (by omega)
theorem el_top (s o t : Nat) (hs : s = 64) (ho : o < s) (ht : t < s) : ((2 ^ o - 1) / 2 ^ t ||| (2 ^ o - 1) * 2 ^ (s - t) % 2 ^ 64) = valN s o t s := by
  subst hs
  have hr : 2 ^ o - 1 < 2 ^ 64 := lt64 (k := o) (by have := Nat.two_pow_pos o; omega) (by omega)
  have := turn_bits (2 ^ o - 1) 64 t 64 hr (by omega) (Nat.le_refl _)
  rw [valN_elem _ _ _ (by omega) ht, ← this, Nat.and_two_pow_sub_one_eq_mod]
  refine (Nat.mod_eq_of_lt ?_).symm
  exact Nat.or_lt_two_pow (Nat.lt_of_le_of_lt (Nat.div_le_self _ _) hr) (Nat.mod_lt _ (by decide))
theorem more_fact (s o t a : Nat) (h : s ∣ a) (ha : a + s ≤ 64) :
    bits BinOp.or IntKind.u64 ((valN s o t a : Nat) : Int) (IntKind.u64.wrap (((valN s o t s : Nat) : Int) * 2 ^ a)) = ((valN s o t (a + s) : Nat) : Int) := by
  have h1 : valN s o t a < 18446744073709551616 := lt64 (natOf_lt _ a) (by omega)
  have h2 : valN s o t s * 2 ^ a < 18446744073709551616 := by
    have := Nat.mul_lt_mul_of_pos_right (natOf_lt (oneAt s o t) s) (Nat.two_pow_pos a)
    rw [← Nat.pow_add] at this
    exact lt64 (k := s + a) this (by omega)
  rw [ipow, ← Int.natCast_mul, IntKind.wrap_u64]
  have e : ((valN s o t s * 2 ^ a : Nat) : Int) % 18446744073709551616 = ((valN s o t s * 2 ^ a : Nat) : Int) := by omega
  rw [e, u64_or_nat _ _ h1 h2, valN_more _ _ _ _ h]
theorem lvalue_any (s o t w : Nat) (hP : Pat s o t w) (hw : w = 32 ∨ w = 64) (W : World) :
    Calls Tryz.prog 168 #[.agg #[.int .i64 s, .int .i64 o, .int .i64 t], .int .i64 w] W (Ret (.int .u64 (valN s o t w)) W) := by
  obtain ⟨h1, h2, h3, h4, h5⟩ := hP
  have hs : s ≤ 64 := by omega
  have ho : o < 64 := by omega
  go_enter Tryz.func168, Tryz.ntmps168
  go_wp2
  refine wp_region_quiet_below (by kernel_rfl) (by kernel_rfl) ?_
  repeat (go_big_quiet_step (fail))
  refine wpQuiet_nil ?_
  intro w2 hw2
  have hb2 := of_gr hw2
  clear hw2
  have hc2 := (bcell hb2).1
  have hz2 : W.heap.size < w2.heap.size := blt hb2 (by simp)
  have hB := bone hb2
  rw [run_fact o ho]
  rw [raw_fact s o t hs h4 h5]
  have hd : s ∣ w := sz_dvd h1 hw h2
  have HM := Lib.hid (fun a hd ha => more_fact s o t a hd ha)
  by_cases h64 : s = 64
  · rw [el_top s o t h64 h4 h5]
    have hn64 : decide ((s : Int) < 64) = false := decide_eq_false (by omega)
    clear h64
    go_wp2
    go_loop [7, 8] (fun v a => ∃ n : Nat, s ∣ n ∧ n ≤ w ∧ v = .int .u64 (valN s o t n) ∧ a = .int .i64 n) (fun _ a => (w - intOf a).toNat)
    case atStart => exact ⟨0, Nat.dvd_zero _, by omega, rfl, rfl⟩
    case round =>
      obtain ⟨n, hn, hnw, rfl, rfl⟩ := hrel
      by_cases hlt : n < w
      · have hle : n + s ≤ w := by
          obtain ⟨p, rfl⟩ := hn
          obtain ⟨q, rfl⟩ := hd
          have : p < q := Nat.lt_of_mul_lt_mul_left hlt
          have := Nat.mul_le_mul_left s this
          rw [Nat.mul_succ] at this
          exact this
        have em := HM.out n hn (by omega)
        have hs0 : 0 < s := by omega
        go_wp2
        go_round
        case rel => exact ⟨n + s, Nat.dvd_add hn (Nat.dvd_refl _), hle, by first | rfl | rw [em], by simp⟩
        case measure => simp [intOf]; omega
      · obtain rfl : n = w := by omega
        go_wp2
        go_ret
        exact ⟨rfl, hB⟩
  · have el := el_low s o t (by omega) h4 h5
    generalize ((2 ^ o - 1) / 2 ^ t ||| (2 ^ o - 1) * 2 ^ (s - t) % 2 ^ 64 : Nat) = r at *
    go_wp2
    clear el
    go_loop [7, 8] (fun v a => ∃ n : Nat, s ∣ n ∧ n ≤ w ∧ v = .int .u64 (valN s o t n) ∧ a = .int .i64 n) (fun _ a => (w - intOf a).toNat)
    case atStart => exact ⟨0, Nat.dvd_zero _, by omega, rfl, rfl⟩
    case round =>
      obtain ⟨n, hn, hnw, rfl, rfl⟩ := hrel
      by_cases hlt : n < w
      · have hle : n + s ≤ w := by
          obtain ⟨p, rfl⟩ := hn
          obtain ⟨q, rfl⟩ := hd
          have : p < q := Nat.lt_of_mul_lt_mul_left hlt
          have := Nat.mul_le_mul_left s this
          rw [Nat.mul_succ] at this
          exact this
        have em := HM.out n hn (by omega)
        have hs0 : 0 < s := by omega
        go_wp2
        go_round
        case rel => exact ⟨n + s, Nat.dvd_add hn (Nat.dvd_refl _), hle, by first | rfl | rw [em], by simp⟩
        case measure => simp [intOf]; omega
      · obtain rfl : n = w := by omega
        go_wp2
        go_ret
        exact ⟨rfl, hB⟩
end Go.Proofs.YtopfaapcekiojaaGreat
