/- The plain laws of logical immediates (no program in sight): what a pattern's value is, and that a value has one pattern alone. -/
import Derived.Test.YtopfaapcekiojaaGreatBitsM
import Derived.Test.YtopfaapcekiojaaGreatPop
import Derived.Test.YtopfaapcekiojaaGreatBase
import Derived.Outline
import Derived.LoopN
import Derived.Handy
namespace Go.Proofs.YtopfaapcekiojaaGreat
open Go.RowKit
set_option linter.unusedVariables false

/-- the number of the first k bits -/
def natOf (f : Nat → Bool) : Nat → Nat
  | 0 => 0
  | k + 1 => natOf f k + (if f k then 2 ^ k else 0)
theorem natOf_lt (f : Nat → Bool) : ∀ k, natOf f k < 2 ^ k
  | 0 => by simp [natOf]
  | k + 1 => by
    have := natOf_lt f k
    have := Nat.two_pow_pos k
    rw [natOf, Nat.pow_succ]
    split <;> omega
theorem natOf_bit (f : Nat → Bool) : ∀ k i, (natOf f k).testBit i = (decide (i < k) && f i)
  | 0, i => by simp [natOf]
  | k + 1, i => by
    have ih := natOf_bit f k i
    have hl := natOf_lt f k
    rw [natOf]
    by_cases hf : f k
    · rw [if_pos hf, Nat.add_comm]
      by_cases hi : i = k
      · subst hi
        rw [Nat.testBit_two_pow_add_eq, ih]; simp [hf]
      · by_cases hik : i < k
        · rw [Nat.testBit_two_pow_add_gt (by omega), ih]
          have : i < k + 1 := by omega
          simp [hik, this]
        · have : 2 ^ k + natOf f k < 2 ^ i := by
            have := npow_le (show k + 1 ≤ i by omega)
            rw [Nat.pow_succ] at this
            omega
          rw [Nat.testBit_lt_two_pow this]
          have : ¬ i < k + 1 := by omega
          simp [this]
    · rw [if_neg hf, Nat.add_zero, ih]
      by_cases hi : i = k
      · subst hi; simp at hf; simp [hf]
      · have : (i < k) = (i < k + 1) := by apply propext; omega
        simp [this]
theorem natOf_or (f : Nat → Bool) (k : Nat) : natOf f k ||| 2 ^ k = natOf f k + 2 ^ k := by
  have := Nat.two_pow_add_eq_or_of_lt (natOf_lt f k) 1
  rw [Nat.mul_one] at this
  rw [Nat.or_comm, ← this, Nat.add_comm]

/-- is the bit of a pattern's value a one? -/
def oneAt (s o t i : Nat) : Bool := decide ((i % s + t) % s < o)
/-- a pattern's value -/
def valN (s o t w : Nat) : Nat := natOf (oneAt s o t) w
/-- a size of elements -/
def Sz (s : Nat) : Prop := s = 2 ∨ s = 4 ∨ s = 8 ∨ s = 16 ∨ s = 32 ∨ s = 64
/-- a pattern of a width -/
def Pat (s o t w : Nat) : Prop := Sz s ∧ s ≤ w ∧ 1 ≤ o ∧ o < s ∧ t < s
theorem oneAt_eq (s o t i : Nat) : oneAt s o t i = decide ((i + t) % s < o) := by unfold oneAt; rw [Nat.mod_add_mod]
theorem oneAt_mod (s o t i : Nat) : oneAt s o t (i % s) = oneAt s o t i := by unfold oneAt; rw [Nat.mod_mod]
theorem oneAt_add (s o t i k : Nat) (h : s ∣ k) : oneAt s o t (k + i) = oneAt s o t i := by
  unfold oneAt
  obtain ⟨m, rfl⟩ := h
  rw [Nat.mul_add_mod]
theorem sz_dvd {s w : Nat} (hs : Sz s) (hw : w = 32 ∨ w = 64) (h : s ≤ w) : s ∣ w := by
  rcases hs with rfl | rfl | rfl | rfl | rfl | rfl <;> rcases hw with rfl | rfl <;> first | decide | omega
theorem sz_dvd2 {s s' : Nat} (hs : Sz s) (hs' : Sz s') (h : s ≤ s') : s ∣ s' := by
  rcases hs with rfl | rfl | rfl | rfl | rfl | rfl <;> rcases hs' with rfl | rfl | rfl | rfl | rfl | rfl <;> first | decide | omega
theorem valN_bits {s o t w s' o' t' : Nat} (hs : s ∣ w) (hs' : s' ∣ w) (hw : 0 < w) (h : valN s o t w = valN s' o' t' w) (i : Nat) : oneAt s o t i = oneAt s' o' t' i := by
  have e : ∀ j, j < w → oneAt s o t j = oneAt s' o' t' j := fun j hj => by
    have := congrArg (fun x => Nat.testBit x j) h
    simpa [valN, natOf_bit, hj] using this
  have h1 := e (i % w) (Nat.mod_lt _ hw)
  have d := Nat.div_add_mod i w
  have a := oneAt_add s o t (i % w) (w * (i / w)) (Nat.dvd_trans hs (Nat.dvd_mul_right _ _))
  have b := oneAt_add s' o' t' (i % w) (w * (i / w)) (Nat.dvd_trans hs' (Nat.dvd_mul_right _ _))
  rw [d] at a b
  rw [a, b, h1]
/-- no less period than its size -/
theorem no_less {s s' o t : Nat} (hs : 0 < s) (hd : s ∣ s') (hlt : s < s') (ho : 1 ≤ o) (ho' : o < s') (ht : t < s') (h : ∀ i, oneAt s' o t (i + s) = oneAt s' o t i) : False := by
  have J : ∀ j, decide ((j + s) % s' < o) = decide (j % s' < o) := fun j => by
    have := h (j + (s' - t))
    rw [oneAt_eq, oneAt_eq] at this
    have e1 : j + (s' - t) + s + t = (j + s) + s' := by omega
    have e2 : j + (s' - t) + t = j + s' := by omega
    rwa [e1, e2, Nat.add_mod_right, Nat.add_mod_right] at this
  have K : ∀ k j, decide ((j + k * s) % s' < o) = decide (j % s' < o) := fun k => by
    induction k with
    | zero => intro j; simp
    | succ k ih => intro j; rw [Nat.succ_mul, ← Nat.add_assoc, J, ih]
  obtain ⟨m, rfl⟩ := hd
  have hm : 2 ≤ m := by
    rcases m with _ | _ | m
    · omega
    · omega
    · omega
  obtain ⟨k, rfl⟩ : ∃ k, m = k + 2 := ⟨m - 2, by omega⟩
  have e : s * (k + 2) = (k + 1) * s + s := by rw [Nat.mul_comm, ← Nat.succ_mul]
  have p : s ≤ (k + 1) * s := by rw [Nat.succ_mul]; omega
  have a := K (k + 1) 0
  have b := K (k + 1) (s - 1)
  rw [Nat.mod_eq_of_lt (show 0 + (k + 1) * s < s * (k + 2) by omega), Nat.zero_mod] at a
  rw [Nat.mod_eq_of_lt (show s - 1 + (k + 1) * s < s * (k + 2) by omega), Nat.mod_eq_of_lt (show s - 1 < s * (k + 2) by omega)] at b
  simp only [decide_eq_decide] at a b
  omega
theorem same_turn {s o t o' t' : Nat} (ho : 1 ≤ o) (hos : o < s) (ho' : 1 ≤ o') (hos' : o' < s) (ht : t < s) (ht' : t' < s) (h : ∀ i, oneAt s o t i = oneAt s o' t' i) : t = t' := by
  have J : ∀ j, decide (j % s < o) = decide ((j + (t' + (s - t))) % s < o') := fun j => by
    have := h (j + (s - t))
    rw [oneAt_eq, oneAt_eq] at this
    have e1 : j + (s - t) + t = j + s := by omega
    have e2 : j + (s - t) + t' = j + (t' + (s - t)) := by omega
    rwa [e1, e2, Nat.add_mod_right] at this
  have a := J 0
  have b := J (s - 1)
  rw [Nat.zero_mod, Nat.zero_add] at a
  rw [Nat.mod_eq_of_lt (by omega)] at b
  simp only [decide_eq_decide] at a b
  by_cases hc : t ≤ t'
  · by_cases hc' : t = t'
    · exact hc'
    · have e1 : (t' + (s - t)) % s = t' - t := by
        have : t' + (s - t) = (t' - t) + s := by omega
        rw [this, Nat.add_mod_right, Nat.mod_eq_of_lt (by omega)]
      have e2 : (s - 1 + (t' + (s - t))) % s = t' - t - 1 := by
        have : s - 1 + (t' + (s - t)) = (t' - t - 1) + s + s := by omega
        rw [this, Nat.add_mod_right, Nat.add_mod_right, Nat.mod_eq_of_lt (by omega)]
      rw [e1] at a; rw [e2] at b
      omega
  · have e1 : (t' + (s - t)) % s = t' + (s - t) := Nat.mod_eq_of_lt (by omega)
    have e2 : (s - 1 + (t' + (s - t))) % s = t' + (s - t) - 1 := by
      have : s - 1 + (t' + (s - t)) = (t' + (s - t) - 1) + s := by omega
      rw [this, Nat.add_mod_right, Nat.mod_eq_of_lt (by omega)]
    rw [e1] at a; rw [e2] at b
    omega
theorem same_ones {s o t o' : Nat} (hos : o < s) (hos' : o' < s) (ht : t < s) (h : ∀ i, oneAt s o t i = oneAt s o' t i) : o = o' := by
  have J : ∀ j, decide (j % s < o) = decide (j % s < o') := fun j => by
    have := h (j + (s - t))
    rw [oneAt_eq, oneAt_eq] at this
    have e1 : j + (s - t) + t = j + s := by omega
    rwa [e1, Nat.add_mod_right] at this
  have a := J o
  have b := J o'
  rw [Nat.mod_eq_of_lt hos] at a
  rw [Nat.mod_eq_of_lt hos'] at b
  simp only [decide_eq_decide] at a b
  omega
/-- a value has one pattern alone -/
theorem pat_one {w s o t s' o' t' : Nat} (hw : w = 32 ∨ w = 64) (h : Pat s o t w) (h' : Pat s' o' t' w) (e : valN s o t w = valN s' o' t' w) : s = s' ∧ o = o' ∧ t = t' := by
  obtain ⟨a1, a2, a3, a4, a5⟩ := h
  obtain ⟨b1, b2, b3, b4, b5⟩ := h'
  have hb := valN_bits (sz_dvd a1 hw a2) (sz_dvd b1 hw b2) (by omega) e
  have key : ∀ {s o t s' o' t' : Nat}, Sz s → Sz s' → 1 ≤ o' → o' < s' → t' < s' → (∀ i, oneAt s o t i = oneAt s' o' t' i) → ¬ s < s' := fun hs hs' c1 c2 c3 hb hlt =>
    no_less (by rcases hs with rfl | rfl | rfl | rfl | rfl | rfl <;> decide) (sz_dvd2 hs hs' (by omega)) hlt c1 c2 c3 (fun i => by rw [← hb, ← hb, Nat.add_comm, oneAt_add _ _ _ _ _ (Nat.dvd_refl _)])
  have n1 := key a1 b1 b3 b4 b5 hb
  have n2 := key b1 a1 a3 a4 a5 (fun i => (hb i).symm)
  obtain rfl : s = s' := by omega
  obtain rfl := same_turn a3 a4 b3 b4 a5 b5 hb
  exact ⟨rfl, same_ones a4 b4 a5 hb, rfl⟩

/-- an element, and its value -/
theorem valN_elem (s o t : Nat) (ho : o ≤ s) (ht : t < s) : valN s o t s = turnN (2 ^ o - 1) s t := by
  have hr : 2 ^ o - 1 < 2 ^ s := by
    have := npow_le ho
    have := Nat.two_pow_pos o
    omega
  apply Nat.eq_of_testBit_eq
  intro i
  rw [turnN_bit _ _ _ _ hr (by omega), valN, natOf_bit, Nat.testBit_two_pow_sub_one, Nat.testBit_two_pow_sub_one]
  by_cases hi : i < s
  · rw [oneAt_eq]
    by_cases h1 : i < s - t
    · rw [if_pos h1, Nat.mod_eq_of_lt (by omega), Nat.add_comm i t]; simp [hi]
    · rw [if_neg h1]
      have : i + t = (i - (s - t)) + s := by omega
      rw [this, Nat.add_mod_right, Nat.mod_eq_of_lt (by omega)]
  · rw [if_neg (by omega)]; simp [hi]
/-- one element more -/
theorem valN_more (s o t a : Nat) (h : s ∣ a) : valN s o t (a + s) = valN s o t a ||| valN s o t s * 2 ^ a := by
  apply Nat.eq_of_testBit_eq
  intro i
  rw [Nat.testBit_or, Nat.testBit_mul_two_pow, valN, valN, valN, natOf_bit, natOf_bit, natOf_bit]
  by_cases hi : i < a
  · have h1 : i < a + s := by omega
    have h2 : ¬ a ≤ i := by omega
    simp [hi, h1, h2]
  · have h2 : a ≤ i := by omega
    have e := oneAt_add s o t (i - a) a h
    have e2 : a + (i - a) = i := by omega
    rw [e2] at e
    have h3 : (i - a < s) = (i < a + s) := by apply propext; omega
    simp only [hi, h2, h3, e, decide_true, decide_false, Bool.false_and, Bool.true_and, Bool.false_or]
end Go.Proofs.YtopfaapcekiojaaGreat

/- Logical immediates: may a pattern be, and what is its value. -/
namespace Go.Proofs.YtopfaapcekiojaaGreat
open Go.RowKit Go.Sort
attribute [local go_sem] cell_gr frozen_gr
set_option linter.unusedVariables false

def mayB (s o t w : Int) : Bool := decide (2 ≤ s) && decide (s ≤ w) && decide (1 ≤ o) && decide (o < s) && decide (0 ≤ t) && decide (t < s)
theorem mayB_iff (s o t w : Int) : mayB s o t w = true ↔ 2 ≤ s ∧ s ≤ w ∧ 1 ≤ o ∧ o < s ∧ 0 ≤ t ∧ t < s := by simp [mayB, and_assoc]
theorem mayB_not {s o t w : Int} (h : ¬ (2 ≤ s ∧ s ≤ w ∧ 1 ≤ o ∧ o < s ∧ 0 ≤ t ∧ t < s)) : mayB s o t w = false := by
  rw [Bool.eq_false_iff]; intro h'; exact h ((mayB_iff s o t w).1 h')
theorem may_any (s o t w : Int) (W : World) : Calls Tryz.prog 167 #[.agg #[.int .i64 s, .int .i64 o, .int .i64 t], .int .i64 w] W (Ret (.bool (mayB s o t w)) W) := by
  by_cases h : 2 ≤ s ∧ s ≤ w ∧ 1 ≤ o ∧ o < s ∧ 0 ≤ t ∧ t < s
  · rw [(mayB_iff s o t w).2 h]
    obtain ⟨g1, g2, g3, g4, g5, g6⟩ := h
    go_enter Tryz.func167, Tryz.ntmps167
    go_wp2
    go_ret
    exact ⟨by simp, bnew _ _⟩
  · rw [mayB_not h]
    go_enter Tryz.func167, Tryz.ntmps167
    go_wp2
    all_goals (go_ret; exact ⟨by simp; try omega, bnew _ _⟩)
theorem run_fact (o : Nat) (ho : o < 64) : IntKind.u64.wrap (IntKind.u64.wrap (2 ^ o) - 1) = ((2 ^ o - 1 : Nat) : Int) := by
  have := pow_lt64 o ho
  rw [IntKind.wrap_u64, IntKind.wrap_u64]
  have e := ipow o
  have := Nat.two_pow_pos o
  omega
theorem lt64 {x k : Nat} (h : x < 2 ^ k) (hk : k ≤ 64) : x < 18446744073709551616 := Nat.lt_of_lt_of_le h (npow_le hk)
theorem raw_fact (s o t : Nat) (hs : s ≤ 64) (ho : o < s) (ht : t < s) :
    bits BinOp.or IntKind.u64 (((2 ^ o - 1 : Nat) : Int) / 2 ^ t) (IntKind.u64.wrap (((2 ^ o - 1 : Nat) : Int) * 2 ^ (s - t))) = (((2 ^ o - 1) / 2 ^ t ||| (2 ^ o - 1) * 2 ^ (s - t) % 2 ^ 64 : Nat) : Int) := by
  have h1 : 2 ^ o - 1 < 18446744073709551616 := lt64 (k := o) (by have := Nat.two_pow_pos o; omega) (by omega)
  rw [ipow, ipow, ← Int.natCast_ediv, ← Int.natCast_mul, IntKind.wrap_u64]
  have e : (((2 ^ o - 1) * 2 ^ (s - t) : Nat) : Int) % 18446744073709551616 = (((2 ^ o - 1) * 2 ^ (s - t) % 2 ^ 64 : Nat) : Int) := by
    rw [Int.natCast_emod]; rfl
  rw [e]
  exact u64_or_nat _ _ (Nat.lt_of_le_of_lt (Nat.div_le_self _ _) h1) (Nat.mod_lt _ (by decide))
theorem el_low (s o t : Nat) (hs : s < 64) (ho : o < s) (ht : t < s) :
    bits BinOp.and IntKind.u64 (((2 ^ o - 1) / 2 ^ t ||| (2 ^ o - 1) * 2 ^ (s - t) % 2 ^ 64 : Nat) : Int) (IntKind.u64.wrap (IntKind.u64.wrap (2 ^ s) - 1)) = ((valN s o t s : Nat) : Int) := by
  rw [run_fact s hs, u64_and_nat, turn_bits _ _ _ _ (by have := npow_le (Nat.le_of_lt ho); have := Nat.two_pow_pos o; omega) (by omega) (by omega), valN_elem _ _ _ (by omega) ht]
  · exact Nat.or_lt_two_pow (n := 64) (Nat.lt_of_le_of_lt (Nat.div_le_self _ _) (lt64 (k := o) (by have := Nat.two_pow_pos o; omega) (by omega))) (Nat.mod_lt _ (by decide))
  · exact lt64 (k := s) (by have := Nat.two_pow_pos s; omega) (by omega)
theorem el_top (s o t : Nat) (hs : s = 64) (ho : o < s) (ht : t < s) : ((2 ^ o - 1) / 2 ^ t ||| (2 ^ o - 1) * 2 ^ (s - t) % 2 ^ 64) = valN s o t s := by
  subst hs
  have hr : 2 ^ o - 1 < 2 ^ 64 := lt64 (k := o) (by have := Nat.two_pow_pos o; omega) (by omega)
  have := turn_bits (2 ^ o - 1) 64 t 64 hr (by omega) (Nat.le_refl _)
  rw [valN_elem _ _ _ (by omega) ht, ← this, Nat.and_two_pow_sub_one_eq_mod]
  refine (Nat.mod_eq_of_lt ?_).symm
  exact Nat.or_lt_two_pow (Nat.lt_of_le_of_lt (Nat.div_le_self _ _) hr) (Nat.mod_lt _ (by decide))
theorem more_fact (s o t a : Nat) (h : s ∣ a) (ha : a + s ≤ 64) :
    bits BinOp.or IntKind.u64 ((valN s o t a : Nat) : Int) (IntKind.u64.wrap (((valN s o t s : Nat) : Int) * 2 ^ a)) = ((valN s o t (a + s) : Nat) : Int) := by
  have h1 : valN s o t a < 18446744073709551616 := lt64 (natOf_lt _ a) (by omega)
  have h2 : valN s o t s * 2 ^ a < 18446744073709551616 := by
    have := Nat.mul_lt_mul_of_pos_right (natOf_lt (oneAt s o t) s) (Nat.two_pow_pos a)
    rw [← Nat.pow_add] at this
    exact lt64 (k := s + a) this (by omega)
  rw [ipow, ← Int.natCast_mul, IntKind.wrap_u64]
  have e : ((valN s o t s * 2 ^ a : Nat) : Int) % 18446744073709551616 = ((valN s o t s * 2 ^ a : Nat) : Int) := by omega
  rw [e, u64_or_nat _ _ h1 h2, valN_more _ _ _ _ h]
theorem lvalue_any (s o t w : Nat) (hP : Pat s o t w) (hw : w = 32 ∨ w = 64) (W : World) :
    Calls Tryz.prog 168 #[.agg #[.int .i64 s, .int .i64 o, .int .i64 t], .int .i64 w] W (Ret (.int .u64 (valN s o t w)) W) := by
  obtain ⟨h1, h2, h3, h4, h5⟩ := hP
  have hs : s ≤ 64 := by omega
  have ho : o < 64 := by omega
  go_enter Tryz.func168, Tryz.ntmps168
  go_wp2
  refine wp_region_quiet_below (by kernel_rfl) (by kernel_rfl) ?_
  repeat (go_big_quiet_step (fail))
  refine wpQuiet_nil ?_
  intro w2 hw2
  have hb2 := of_gr hw2
  clear hw2
  have hc2 := (bcell hb2).1
  have hz2 : W.heap.size < w2.heap.size := blt hb2 (by simp)
  have hB := bone hb2
  rw [run_fact o ho]
  rw [raw_fact s o t hs h4 h5]
  have hd : s ∣ w := sz_dvd h1 hw h2
  have HM := Lib.hid (fun a hd ha => more_fact s o t a hd ha)
  by_cases h64 : s = 64
  · rw [el_top s o t h64 h4 h5]
    have hn64 : decide ((s : Int) < 64) = false := decide_eq_false (by omega)
    clear h64
    go_wp2
    go_loop [7, 8] (fun v a => ∃ n : Nat, s ∣ n ∧ n ≤ w ∧ v = .int .u64 (valN s o t n) ∧ a = .int .i64 n) (fun _ a => (w - intOf a).toNat)
    case atStart => exact ⟨0, Nat.dvd_zero _, by omega, rfl, rfl⟩
    case round =>
      obtain ⟨n, hn, hnw, rfl, rfl⟩ := hrel
      by_cases hlt : n < w
      · have hle : n + s ≤ w := by
          obtain ⟨p, rfl⟩ := hn
          obtain ⟨q, rfl⟩ := hd
          have : p < q := Nat.lt_of_mul_lt_mul_left hlt
          have := Nat.mul_le_mul_left s this
          rw [Nat.mul_succ] at this
          exact this
        have em := HM.out n hn (by omega)
        have hs0 : 0 < s := by omega
        go_wp2
        go_round
        case rel => exact ⟨n + s, Nat.dvd_add hn (Nat.dvd_refl _), hle, by first | rfl | rw [em], by simp⟩
        case measure => simp [intOf]; omega
      · obtain rfl : n = w := by omega
        go_wp2
        go_ret
        exact ⟨rfl, hB⟩
  · have el := el_low s o t (by omega) h4 h5
    generalize ((2 ^ o - 1) / 2 ^ t ||| (2 ^ o - 1) * 2 ^ (s - t) % 2 ^ 64 : Nat) = r at *
    go_wp2
    clear el
    go_loop [7, 8] (fun v a => ∃ n : Nat, s ∣ n ∧ n ≤ w ∧ v = .int .u64 (valN s o t n) ∧ a = .int .i64 n) (fun _ a => (w - intOf a).toNat)
    case atStart => exact ⟨0, Nat.dvd_zero _, by omega, rfl, rfl⟩
    case round =>
      obtain ⟨n, hn, hnw, rfl, rfl⟩ := hrel
      by_cases hlt : n < w
      · have hle : n + s ≤ w := by
          obtain ⟨p, rfl⟩ := hn
          obtain ⟨q, rfl⟩ := hd
          have : p < q := Nat.lt_of_mul_lt_mul_left hlt
          have := Nat.mul_le_mul_left s this
          rw [Nat.mul_succ] at this
          exact this
        have em := HM.out n hn (by omega)
        have hs0 : 0 < s := by omega
        go_wp2
        go_round
        case rel => exact ⟨n + s, Nat.dvd_add hn (Nat.dvd_refl _), hle, by first | rfl | rw [em], by simp⟩
        case measure => simp [intOf]; omega
      · obtain rfl : n = w := by omega
        go_wp2
        go_ret
        exact ⟨rfl, hB⟩
end Go.Proofs.YtopfaapcekiojaaGreat

/- Logical immediates: the pattern of parts, and Decode. -/
namespace Go.Proofs.YtopfaapcekiojaaGreat
open Go.RowKit Go.Sort
attribute [local go_sem] cell_gr frozen_gr
set_option linter.unusedVariables false

/-- what stands in imms above the number of ones -/
def topI (s : Int) : Int := if 32 ≤ s then 0 else 64 - 2 * s
/-- the size that parts tell -/
def szI (n imms : Int) : Int := if n = 1 then 64 else if imms < 32 then 32 else if imms < 48 then 16 else if imms < 56 then 8 else if imms < 60 then 4 else if imms < 62 then 2 else 0
theorem above_any (s o t : Int) (W : World) (hs : 0 ≤ s) (hs2 : s ≤ 64) : Calls Tryz.prog 172 #[.agg #[.int .i64 s, .int .i64 o, .int .i64 t]] W (Ret (.int .i64 (topI s)) W) := by
  by_cases h : 32 ≤ s
  · have e : topI s = 0 := if_pos h
    rw [e]
    go_enter Tryz.func172, Tryz.ntmps172
    go_wp2
    go_ret
    exact ⟨rfl, bnew _ _⟩
  · have e : topI s = 64 - 2 * s := if_neg h
    rw [e]
    go_enter Tryz.func172, Tryz.ntmps172
    go_wp2
    go_ret
    exact ⟨rfl, bnew _ _⟩
/-- the pattern that parts tell -/
def ofV (n r m : Int) : Value := .agg #[.int .i64 (szI n m), .int .i64 (if szI n m = 0 then 0 else m - topI (szI n m) + 1), .int .i64 (if szI n m = 0 then 0 else r)]
theorem ofV_of (n r m z : Int) (h : szI n m = z) (hz : z ≠ 0) : ofV n r m = .agg #[.int .i64 z, .int .i64 (m - topI z + 1), .int .i64 r] := by
  unfold ofV; rw [h, if_neg hz, if_neg hz]
theorem ofV_no (n r m : Int) (h : szI n m = 0) : ofV n r m = .agg #[.int .i64 0, .int .i64 0, .int .i64 0] := by
  unfold ofV; rw [h, if_pos rfl, if_pos rfl]
theorem szI_low (m z : Int) (hz : z = 32 ∨ z = 16 ∨ z = 8 ∨ z = 4 ∨ z = 2) (h : 64 - 2 * z ≤ m) (h' : m < 64 - z) (hm : 0 ≤ m) : szI 0 m = z := by
  unfold szI
  rcases hz with rfl | rfl | rfl | rfl | rfl <;> (simp only [show ¬ ((0 : Int) = 1) by decide, if_false]; (repeat' split) <;> omega)
theorem topI_low (z : Int) (hz : z = 32 ∨ z = 16 ∨ z = 8 ∨ z = 4 ∨ z = 2) : topI z = 64 - 2 * z := by
  rcases hz with rfl | rfl | rfl | rfl | rfl <;> rfl
set_option maxHeartbeats 2000000 in
theorem of_any0 (r m : Int) (W : World) (hm : 0 ≤ m) (hm2 : m ≤ 63) (hr : I64 r) :
    Calls Tryz.prog 166 #[.int .i64 0, .int .i64 r, .int .i64 m] W (Ret (ofV 0 r m) W) := by
  go_enter Tryz.func166, Tryz.ntmps166
  go_wp2
  have hB00 : Below W.heap.size W (W.alloc (Obj.cells #[Value.int IntKind.i64 0, Value.int IntKind.i64 0, Value.int IntKind.i64 0] 150)) := bnew _ _
  go_loopw [7] (fun s wr => Below (W.alloc (Obj.cells #[Value.int IntKind.i64 0, Value.int IntKind.i64 0, Value.int IntKind.i64 0] 150)).heap.size (W.alloc (Obj.cells #[Value.int IntKind.i64 0, Value.int IntKind.i64 0, Value.int IntKind.i64 0] 150)) wr ∧ ∃ z : Int, (z = 1 ∨ (z = 32 ∨ z = 16 ∨ z = 8 ∨ z = 4 ∨ z = 2)) ∧ s = .int .i64 z ∧ 64 - 2 * z ≤ m) (fun s _ => (intOf s).toNat)
  case atStart => exact ⟨Below.refl _ _, 32, .inr (.inl rfl), rfl, by omega⟩
  case round =>
    obtain ⟨hB0, z, hz, rfl, hl⟩ := hrel
    have hc0 := (bcell hB0).1 W.heap.size 0 (by simp)
    have hc1 := (bcell hB0).1 W.heap.size 1 (by simp)
    have hc2 := (bcell hB0).1 W.heap.size 2 (by simp)
    have hf0 := (bcell hB0).2 W.heap.size 0 (by simp)
    have hf1 := (bcell hB0).2 W.heap.size 1 (by simp)
    have hf2 := (bcell hB0).2 W.heap.size 2 (by simp)
    have hz0 : W.heap.size < wr.heap.size := blt hB0 (by simp)
    have hBW := bone hB0
    simp [go_sem] at hc0 hc1 hc2 hf0 hf1 hf2
    rcases hz with rfl | hz
    · have hno : szI 0 m = 0 := by
        unfold szI
        simp only [show ¬ ((0 : Int) = 1) by decide, if_false]; (repeat' split) <;> omega
      have hv := ofV_no 0 r m hno
      go_wp2
      rw [hv]
      (try simp only [Exit.inBlock, Exit.then])
      (refine bodyPost_ret (by simp [results, Tryz.results166, go_sem, hc0, hc1, hc2]; try rfl) rfl ?_)
      exact ⟨by simp, by go_grown⟩
    · by_cases hc : m < 64 - z
      · rw [ofV_of 0 r m z (szI_low m z hz hl hc hm) (by omega), topI_low z hz]
        have ht := topI_low z hz
        generalize hq : topI z = q at ht
        rcases hz with rfl | rfl | rfl | rfl | rfl
        all_goals (go_wp2_with (first
          | (go_at_call 172; refine (above_any _ _ _ _ (by decide) (by decide)).mono ?_; rintro e w1 ⟨rfl, hb1⟩; rw [hq]; have hd0 := ((bcell hb1).1 W.heap.size 0 (by simp; omega)).trans (cell_up _ hc0); have hd1 := ((bcell hb1).1 W.heap.size 1 (by simp; omega)).trans (cell_up _ hc1); have hd2 := ((bcell hb1).1 W.heap.size 2 (by simp; omega)).trans (cell_up _ hc2); have hg0 := ((bcell hb1).2 W.heap.size 0 (by simp; omega)).trans (frozen_up _ hc0 hf0); have hg1 := ((bcell hb1).2 W.heap.size 1 (by simp; omega)).trans (frozen_up _ hc1 hf1); have hg2 := ((bcell hb1).2 W.heap.size 2 (by simp; omega)).trans (frozen_up _ hc2 hf2); have hB := bthen (bthen hBW (bnew _ _) hBW.size) hb1 (by simp; omega); have hBz := bthen (bthen hB0 (bnew _ _) hB0.size) hb1 (by have := hB0.size; simp at *; omega))))
        all_goals ((try simp only [Exit.inBlock, Exit.then]); (refine bodyPost_ret (by simp [results, Tryz.results166, go_sem, hd0, hd1, hd2]; try rfl) rfl ?_); exact ⟨by simp, by go_grown⟩)
      · have ht := topI_low z hz
        generalize hq : topI z = q at ht
        rcases hz with rfl | rfl | rfl | rfl | rfl
        all_goals (go_wp2_with (first
          | (go_at_call 172; refine (above_any _ _ _ _ (by decide) (by decide)).mono ?_; rintro e w1 ⟨rfl, hb1⟩; rw [hq]; have hd0 := ((bcell hb1).1 W.heap.size 0 (by simp; omega)).trans (cell_up _ hc0); have hd1 := ((bcell hb1).1 W.heap.size 1 (by simp; omega)).trans (cell_up _ hc1); have hd2 := ((bcell hb1).1 W.heap.size 2 (by simp; omega)).trans (cell_up _ hc2); have hg0 := ((bcell hb1).2 W.heap.size 0 (by simp; omega)).trans (frozen_up _ hc0 hf0); have hg1 := ((bcell hb1).2 W.heap.size 1 (by simp; omega)).trans (frozen_up _ hc1 hf1); have hg2 := ((bcell hb1).2 W.heap.size 2 (by simp; omega)).trans (frozen_up _ hc2 hf2); have hB := bthen (bthen hBW (bnew _ _) hBW.size) hb1 (by simp; omega); have hBz := bthen (bthen hB0 (bnew _ _) hB0.size) hb1 (by have := hB0.size; simp at *; omega))))
        all_goals (refine ⟨⟨hBz, _, ?_, rfl, ?_⟩, by decide⟩; decide; omega)
theorem of_any1 (r m : Int) (W : World) (hm : 0 ≤ m) (hm2 : m ≤ 63) (hr : I64 r) :
    Calls Tryz.prog 166 #[.int .i64 1, .int .i64 r, .int .i64 m] W (Ret (ofV 1 r m) W) := by
  rw [ofV_of 1 r m 64 rfl (by decide), show topI 64 = 0 from rfl]
  go_enter Tryz.func166, Tryz.ntmps166
  go_wp2
  go_returns
  exact ⟨by simp, bnew _ _⟩
theorem of_any (n r m : Int) (W : World) (hn : n = 0 ∨ n = 1) (hm : 0 ≤ m) (hm2 : m ≤ 63) (hr : I64 r) :
    Calls Tryz.prog 166 #[.int .i64 n, .int .i64 r, .int .i64 m] W (Ret (ofV n r m) W) := by
  rcases hn with rfl | rfl
  · exact of_any0 r m W hm hm2 hr
  · exact of_any1 r m W hm hm2 hr
end Go.Proofs.YtopfaapcekiojaaGreat

/- Logical immediates, the document's answer: a pattern's value. -/
namespace Go.Proofs.YtopfaapcekiojaaGreat
open Go.RowKit Go.Sort
attribute [local go_sem] cell_gr frozen_gr
set_option linter.unusedVariables false

theorem bit_fact (f : Nat → Bool) (k : Nat) (hk : k < 64) : bits BinOp.or IntKind.u64 ((natOf f k : Nat) : Int) (IntKind.u64.wrap (2 ^ k)) = ((natOf f k + 2 ^ k : Nat) : Int) := by
  have h1 : natOf f k < 18446744073709551616 := lt64 (natOf_lt f k) (by omega)
  have h2 : 2 ^ k < 18446744073709551616 := lt64 (k := k + 1) (by rw [Nat.pow_succ]; have := Nat.two_pow_pos k; omega) (by omega)
  have e : IntKind.u64.wrap (2 ^ k) = ((2 ^ k : Nat) : Int) := by
    rw [ipow, IntKind.wrap_u64]
    generalize 2 ^ k = q at *
    omega
  rw [e, u64_or_nat _ _ h1 h2, natOf_or]
theorem rem_fact (n s t : Nat) (h : t < s) (hs : s ≤ 64) : (wrap64 ((n : Int) % (s : Int) + (t : Int))).tmod (s : Int) = (((n % s + t) % s : Nat) : Int) := by
  have h1 : n % s < s := Nat.mod_lt _ (by omega)
  have e1 : (n : Int) % (s : Int) + (t : Int) = ((n % s + t : Nat) : Int) := by omega
  have e2 : wrap64 ((n % s + t : Nat) : Int) = ((n % s + t : Nat) : Int) := by
    generalize n % s = a at *
    unfold wrap64
    omega
  rw [e1, e2, Int.tmod_eq_emod_of_nonneg (by omega)]
  exact (Int.natCast_emod _ _).symm
theorem rvalue_any (s o t w : Nat) (hP : Pat s o t w) (hw : w = 32 ∨ w = 64) (W : World) :
    Calls Tryz.prog 163 #[.int .i64 s, .int .i64 o, .int .i64 t, .int .i64 w] W (Ret (.int .u64 (valN s o t w)) W) := by
  obtain ⟨h1, h2, h3, h4, h5⟩ := hP
  have hs : s ≤ 64 := by omega
  have hs0 : 0 < s := by omega
  have HB := Lib.hid (fun k hk => bit_fact (oneAt s o t) k hk)
  go_enter Tryz.func163, Tryz.ntmps163
  go_wp2
  go_loop [9, 10] (fun v a => ∃ n : Nat, n ≤ w ∧ v = .int .u64 (valN s o t n) ∧ a = .int .i64 n) (fun _ a => (w - intOf a).toNat)
  case atStart => exact ⟨0, by omega, rfl, rfl⟩
  case round =>
    obtain ⟨n, hnw, rfl, rfl⟩ := hrel
    by_cases hlt : n < w
    · have em := HB.out n (by omega)
      by_cases hb : oneAt s o t n = true
      · have e1 : valN s o t (n + 1) = natOf (oneAt s o t) n + 2 ^ n := by show natOf _ (n + 1) = _; rw [natOf, if_pos hb]
        rw [← e1] at em
        have hd : decide ((wrap64 ((n : Int) % (s : Int) + (t : Int))).tmod (s : Int) < (o : Int)) = true := by
          have := of_decide_eq_true hb
          rw [rem_fact n s t h5 hs]
          exact decide_eq_true (by omega)
        clear e1 hb
        go_wp2
        go_round
        case rel => exact ⟨n + 1, by omega, by first | exact congrArg (Value.int IntKind.u64) em | rw [e1], by simp⟩
        case measure => simp [intOf]; omega
      · have e1 : valN s o t (n + 1) = valN s o t n := by show natOf _ (n + 1) = _; rw [natOf, if_neg hb, Nat.add_zero]; rfl
        have hd : decide ((wrap64 ((n : Int) % (s : Int) + (t : Int))).tmod (s : Int) < (o : Int)) = false := by
          have : ¬ (n % s + t) % s < o := fun h => hb (decide_eq_true h)
          rw [rem_fact n s t h5 hs]
          exact decide_eq_false (by omega)
        clear hb em
        go_wp2
        go_round
        case rel => exact ⟨n + 1, by omega, by first | exact congrArg (Value.int IntKind.u64) em | rw [e1], by simp⟩
        case measure => simp [intOf]; omega
    · obtain rfl : n = w := by omega
      go_wp2
      go_ret
      exact ⟨rfl, Below.refl _ _⟩
end Go.Proofs.YtopfaapcekiojaaGreat

/- Logical immediates: Decode, and Value of a field. -/
namespace Go.Proofs.YtopfaapcekiojaaGreat
open Go.RowKit Go.Sort
attribute [local go_sem] cell_gr frozen_gr
set_option linter.unusedVariables false

def widB (w : Int) : Bool := decide (w = 32) || decide (w = 64)
theorem wid_not {w : Int} (h : ¬ (w = 32 ∨ w = 64)) : widB w = false := by
  rw [Bool.eq_false_iff]; intro h'; exact h (by simpa [widB] using h')
theorem width_any (w : Int) (W : World) : Calls Tryz.prog 147 #[.int .i64 w] W (Ret (.bool (widB w)) W) := by
  by_cases h1 : w = 32
  · subst h1
    go_enter Tryz.func147, Tryz.ntmps147
    go_wp2
    go_ret
    exact ⟨rfl, Below.refl _ _⟩
  · have e : widB w = decide (w = 64) := by unfold widB; rw [decide_eq_false h1]; rfl
    rw [e]
    have e2 : (w == 32) = false := beq_false_of_ne h1
    go_enter Tryz.func147, Tryz.ntmps147
    go_wp2
    go_ret
    exact ⟨by simp; rfl, Below.refl _ _⟩
/-- are parts of a pattern of the width? -/
def okD (n r m w : Int) : Bool := decide (0 ≤ n) && decide (n ≤ 1) && decide (0 ≤ m) && decide (m ≤ 63) && mayB (szI n m) (m - topI (szI n m) + 1) r w
/-- the value of parts, and its error -/
def decE (n r m w : Int) : Int := if widB w then if okD n r m w then 0 else 20 else 1
def decI (n r m w : Int) : Int := if decE n r m w = 0 then ((valN (szI n m).toNat (m - topI (szI n m) + 1).toNat r.toNat w.toNat : Nat) : Int) else 0
theorem szI_sz (n m w o r : Int) (hm : 0 ≤ m) (h : mayB (szI n m) o r w = true) : Sz (szI n m).toNat := by
  obtain ⟨h1, _⟩ := (mayB_iff _ _ _ _).1 h
  unfold szI at *
  unfold Sz
  (repeat' split) <;> simp_all
theorem pat_of {s o t w : Int} (hs : Sz s.toNat) (h : mayB s o t w = true) : Pat s.toNat o.toNat t.toNat w.toNat := by
  obtain ⟨h1, h2, h3, h4, h5, h6⟩ := (mayB_iff _ _ _ _).1 h
  exact ⟨hs, by omega, by omega, by omega, by omega⟩
theorem int_of {s : Int} (h : 0 ≤ s) : ((s.toNat : Nat) : Int) = s := Int.toNat_of_nonneg h
theorem decode_any (n r m w : Int) (hn : I64 n) (hr : I64 r) (hm : I64 m) (hw : I64 w) (W : World) :
    Calls Tryz.prog 148 #[.int .i64 n, .int .i64 r, .int .i64 m, .int .i64 w] W (Ret (.tuple #[.int .u64 (decI n r m w), .int .i64 (decE n r m w)]) W) := by
  by_cases h1 : w = 32 ∨ w = 64
  · have e1 : widB w = true := by simpa [widB] using h1
    have hw2 : w.toNat = 32 ∨ w.toNat = 64 := by omega
    by_cases h2 : 0 ≤ n ∧ n ≤ 1 ∧ 0 ≤ m ∧ m ≤ 63
    · by_cases h3 : mayB (szI n m) (m - topI (szI n m) + 1) r w = true
      · obtain ⟨b1, b2, b3, b4, b5, b6⟩ := (mayB_iff _ _ _ _).1 h3
        have e2 : decE n r m w = 0 := by simp [decE, okD, e1, h2, h3]
        have e3 : decI n r m w = _ := if_pos e2
        have hP := pat_of (szI_sz n m w _ r h2.2.2.1 h3) h3
        have hv := lvalue_any _ _ _ _ hP hw2
        rw [int_of (by omega), int_of (by omega), int_of (by omega), int_of (by omega), ← e3] at hv
        have ho : ofV n r m = .agg #[.int .i64 (szI n m), .int .i64 (m - topI (szI n m) + 1), .int .i64 r] := ofV_of _ _ _ _ rfl (by omega)
        rw [e2]
        generalize decI n r m w = d at *
        generalize szI n m = s at *
        generalize m - topI s + 1 = o at *
        obtain ⟨c1, c2, c3, c4⟩ := h2
        clear e2 e3 b1 b2 b3 b4 b5 b6 hP h1 hw2
        have hv := Lib.hid hv
        go_enter Tryz.func148, Tryz.ntmps148
        go_wp2_with (first
          | (go_at_call 147; refine (width_any _ _).mono ?_; rintro e wA ⟨rfl, hbA⟩; rw [e1])
          | (go_at_call 166; refine (of_any _ _ _ _ (by omega) c3 c4 hr).mono ?_; rintro e wB ⟨rfl, hbB⟩; rw [ho]; have hB := bthen hbA hbB hbA.size)
          | (go_at_call 167; refine (may_any _ _ _ _ _).mono ?_; rintro e wC ⟨rfl, hbC⟩; rw [h3]; have hcC := (bcell hbC).1; have hzC : wB.heap.size < wC.heap.size := blt hbC (by simp); have hB2 := bthen hB (bone hbC) hB.size)
          | (go_at_call 168; refine (hv.out _).mono ?_; rintro e wD ⟨rfl, hbD⟩; have hB3 := bthen hB2 hbD hB2.size))
        go_returns
        exact ⟨rfl, hB3⟩
      · have e2 : decE n r m w = 20 := by simp [decE, okD, e1, h3]
        have e3 : decI n r m w = 0 := if_neg (by omega)
        rw [e2, e3]
        have hov : ofV n r m = .agg #[.int .i64 (szI n m), .int .i64 (if szI n m = 0 then 0 else m - topI (szI n m) + 1), .int .i64 (if szI n m = 0 then 0 else r)] := rfl
        have hmay : mayB (szI n m) (if szI n m = 0 then 0 else m - topI (szI n m) + 1) (if szI n m = 0 then 0 else r) w = false := by
          by_cases hs : szI n m = 0
          · rw [hs]; rfl
          · rw [if_neg hs, if_neg hs]; simpa using h3
        clear e2 e3 h3
        generalize (if szI n m = 0 then 0 else m - topI (szI n m) + 1) = o at *
        generalize (if szI n m = 0 then 0 else r) = t at *
        generalize szI n m = s at *
        obtain ⟨c1, c2, c3, c4⟩ := h2
        clear h1 hw2
        go_enter Tryz.func148, Tryz.ntmps148
        go_wp2_with (first
          | (go_at_call 147; refine (width_any _ _).mono ?_; rintro e wA ⟨rfl, hbA⟩; rw [e1])
          | (go_at_call 166; refine (of_any _ _ _ _ (by omega) c3 c4 hr).mono ?_; rintro e wB ⟨rfl, hbB⟩; rw [hov]; have hB := bthen hbA hbB hbA.size)
          | (go_at_call 167; refine (may_any _ _ _ _ _).mono ?_; rintro e wC ⟨rfl, hbC⟩; rw [hmay]; have hB2 := bthen hB (bone hbC) hB.size))
        go_returns
        exact ⟨rfl, hB2⟩
    · have e2 : decE n r m w = 20 := by
        have : okD n r m w = false := by
          rw [Bool.eq_false_iff]; intro h; apply h2
          simp [okD] at h; exact ⟨by omega, by omega, by omega, by omega⟩
        simp [decE, this, e1]
      have e3 : decI n r m w = 0 := if_neg (by omega)
      rw [e2, e3]
      clear e2 e3 h1 hw2
      go_enter Tryz.func148, Tryz.ntmps148
      go_wp2_with (first
          | (go_at_call 147; refine (width_any _ _).mono ?_; rintro e wA ⟨rfl, hbA⟩; rw [e1])
          | (go_at_call 166; exfalso; omega))
      all_goals (go_returns; exact ⟨rfl, hbA⟩)
  · have e1 := wid_not h1
    have e2 : decE n r m w = 1 := by simp [decE, e1]
    have e3 : decI n r m w = 0 := if_neg (by omega)
    rw [e2, e3]
    clear e2 e3 h1
    go_enter Tryz.func148, Tryz.ntmps148
    go_wp2_with (first
          | (go_at_call 147; refine (width_any _ _).mono ?_; rintro e wA ⟨rfl, hbA⟩; rw [e1]))
    go_returns
    exact ⟨rfl, hbA⟩
theorem i64_and63 (n : Int) : bits .and .i64 n 63 = n % 64 := by
  have h63 : (BitVec.ofInt 64 63).toNat = 2 ^ 6 - 1 := by decide
  have key : (BitVec.ofInt 64 n &&& BitVec.ofInt 64 63).toNat = (n % ((2 ^ 64 : Nat) : Int)).toNat % 2 ^ 6 := by
    rw [BitVec.toNat_and, BitVec.toNat_ofInt, h63, Nat.and_two_pow_sub_one_eq_mod]
  show IntKind.i64.wrap ((BitVec.ofInt 64 n &&& BitVec.ofInt 64 63).toNat : Nat) = n % 64
  rw [key, IntKind.wrap_i64]
  omega
/-- the value of a field, and its error -/
def fldE (f w : Int) : Int := if widB w then if 0 ≤ f ∧ f < 8192 then decE (f / 4096) (f / 64 % 64) (f % 64) w else 20 else 1
def fldI (f w : Int) : Int := if widB w then if 0 ≤ f ∧ f < 8192 then decI (f / 4096) (f / 64 % 64) (f % 64) w else 0 else 0
theorem value_any (f w : Int) (hf : I64 f) (hw : I64 w) (W : World) :
    Calls Tryz.prog 132 #[.int .i64 f, .int .i64 w] W (Ret (.tuple #[.int .u64 (fldI f w), .int .i64 (fldE f w)]) W) := by
  by_cases h1 : w = 32 ∨ w = 64
  · have e1 : widB w = true := by simpa [widB] using h1
    by_cases h2 : 0 ≤ f ∧ f < 8192
    · have e2 : fldE f w = decE (f / 4096) (f / 64 % 64) (f % 64) w := by simp [fldE, e1, h2]
      have e3 : fldI f w = decI (f / 4096) (f / 64 % 64) (f % 64) w := by simp [fldI, e1, h2]
      rw [e2, e3]
      obtain ⟨c1, c2⟩ := h2
      clear e2 e3 h1
      have q1 : I64 (f / 4096) := by unfold I64; omega
      have q2 : I64 (f / 64 % 64) := by unfold I64; omega
      have q3 : I64 (f % 64) := by unfold I64; omega
      go_enter Tryz.func132, Tryz.ntmps132
      go_wp2_with (first
          | (go_at_call 147; refine (width_any _ _).mono ?_; rintro e wA ⟨rfl, hbA⟩; rw [e1])
          | (go_at_call 148; rw [i64_and63, i64_and63]; refine (decode_any _ _ _ _ q1 q2 q3 hw _).mono ?_; rintro e wB ⟨rfl, hbB⟩; have hB := bthen hbA hbB hbA.size))
      go_returns
      exact ⟨rfl, hB⟩
    · have e2 : fldE f w = 20 := by unfold fldE; rw [if_pos e1, if_neg h2]
      have e3 : fldI f w = 0 := by unfold fldI; rw [if_pos e1, if_neg h2]
      rw [e2, e3]
      clear e2 e3 h1
      go_enter Tryz.func132, Tryz.ntmps132
      go_wp2_with (first
          | (go_at_call 147; refine (width_any _ _).mono ?_; rintro e wA ⟨rfl, hbA⟩; rw [e1])
          | (go_at_call 148; exfalso; omega))
      all_goals (go_returns; exact ⟨rfl, hbA⟩)
  · have e1 := wid_not h1
    have e2 : fldE f w = 1 := by simp [fldE, e1]
    have e3 : fldI f w = 0 := by simp [fldI, e1]
    rw [e2, e3]
    clear e2 e3 h1
    go_enter Tryz.func132, Tryz.ntmps132
    go_wp2_with (first
          | (go_at_call 147; refine (width_any _ _).mono ?_; rintro e wA ⟨rfl, hbA⟩; rw [e1]))
    go_returns
    exact ⟨rfl, hbA⟩
end Go.Proofs.YtopfaapcekiojaaGreat

/- Logical immediates, the document's answer: Decode and Value. -/
namespace Go.Proofs.YtopfaapcekiojaaGreat
open Go.RowKit Go.Sort
attribute [local go_sem] cell_gr frozen_gr
set_option linter.unusedVariables false

theorem bad_any (w : Int) (W : World) : Calls Tryz.prog 139 #[.int .i64 w] W (Ret (.bool (!widB w)) W) := by
  by_cases h1 : w = 32
  · subst h1
    go_enter Tryz.func139, Tryz.ntmps139
    go_wp2
    go_ret
    exact ⟨rfl, Below.refl _ _⟩
  · have e : widB w = decide (w = 64) := by unfold widB; rw [decide_eq_false h1]; rfl
    rw [e]
    have e2 : (w == 32) = false := beq_false_of_ne h1
    go_enter Tryz.func139, Tryz.ntmps139
    go_wp2
    go_ret
    exact ⟨by simp [e2, bne]; try rfl, Below.refl _ _⟩
/-- a size, or the one behind the last -/
def Sz1 (z : Int) : Prop := z = 2 ∨ z = 4 ∨ z = 8 ∨ z = 16 ∨ z = 32 ∨ z = 64
theorem top_any (z : Int) (hz : Sz1 z) (W : World) : Calls Tryz.prog 162 #[.int .i64 z] W (Ret (.int .i64 (topI z)) W) := by
  rcases hz with rfl | rfl | rfl | rfl | rfl | rfl
  all_goals
    rw [show topI _ = _ from rfl]
    go_enter Tryz.func162, Tryz.ntmps162
    go_wp2
    go_ret
    exact ⟨rfl, Below.refl _ _⟩
/-- the document's condition at a size -/
def refB (n r m z : Int) : Bool := okD n r m 64 && decide (szI n m = z)
theorem refB_iff (n r m z : Int) (hz : Sz1 z) (hm : I64 m) : refB n r m z = true ↔ (((n = 1 ∧ z = 64) ∨ (n ≠ 1 ∧ z ≠ 64)) ∧ (n = 0 ∨ n = 1) ∧ 1 ≤ wrap64 (wrap64 (m - topI z) + 1) ∧ wrap64 (wrap64 (m - topI z) + 1) < z ∧ 0 ≤ r ∧ r < z ∧ 0 ≤ m ∧ m < 64) := by
  unfold I64 at hm
  have e : refB n r m z = true ↔ (0 ≤ n ∧ n ≤ 1 ∧ 0 ≤ m ∧ m ≤ 63 ∧ szI n m = z ∧ 1 ≤ m - topI z + 1 ∧ m - topI z + 1 < z ∧ 0 ≤ r ∧ r < z) := by
    unfold refB okD
    simp only [Bool.and_eq_true, decide_eq_true_eq, mayB_iff]
    constructor
    · rintro ⟨⟨⟨⟨⟨h1, h2⟩, h3⟩, h4⟩, h5, h6, h7, h8, h9, h10⟩, rfl⟩
      exact ⟨h1, h2, h3, h4, rfl, h7, h8, h9, h10⟩
    · rintro ⟨h1, h2, h3, h4, rfl, h7, h8, h9, h10⟩
      refine ⟨⟨⟨⟨⟨h1, h2⟩, h3⟩, h4⟩, ?_, ?_, h7, h8, h9, h10⟩, rfl⟩ <;> (unfold Sz1 at hz; omega)
  rw [e]
  have ht : (32 ≤ z → topI z = 0) ∧ (z < 32 → topI z = 64 - 2 * z) := by unfold topI; split <;> omega
  have hs : (n = 1 → szI n m = 64) ∧ (n ≠ 1 → m < 32 → szI n m = 32) ∧ (n ≠ 1 → 32 ≤ m → m < 48 → szI n m = 16) ∧ (n ≠ 1 → 48 ≤ m → m < 56 → szI n m = 8) ∧ (n ≠ 1 → 56 ≤ m → m < 60 → szI n m = 4) ∧ (n ≠ 1 → 60 ≤ m → m < 62 → szI n m = 2) ∧ (n ≠ 1 → 62 ≤ m → szI n m = 0) := by
    unfold szI; (repeat' split) <;> omega
  generalize szI n m = s at *
  generalize topI z = q at *
  unfold wrap64
  rcases hz with rfl | rfl | rfl | rfl | rfl | rfl
  · obtain rfl : q = 60 := by omega
    omega
  · obtain rfl : q = 56 := by omega
    omega
  · obtain rfl : q = 48 := by omega
    omega
  · obtain rfl : q = 32 := by omega
    omega
  · obtain rfl : q = 0 := by omega
    omega
  · obtain rfl : q = 0 := by omega
    omega
theorem refB_val (n r m z w : Int) (hz : Sz1 z) (hm : I64 m) (hw : w = 32 ∨ w = 64) (hzw : z ≤ w) (h : refB n r m z = true) :
    decE n r m w = 0 ∧ wrap64 (wrap64 (m - topI z) + 1) = m - topI z + 1 ∧ Hid (∀ W, Calls Tryz.prog 163 #[.int .i64 z, .int .i64 (wrap64 (wrap64 (m - topI z) + 1)), .int .i64 r, .int .i64 w] W (Ret (.int .u64 (decI n r m w)) W)) := by
  have hq := (refB_iff n r m z hz hm).1 h
  unfold refB at h
  have e : szI n m = z := of_decide_eq_true (Bool.and_eq_true _ _ ▸ h).2
  have hok : okD n r m 64 = true := (Bool.and_eq_true _ _ ▸ h).1
  have ho : wrap64 (wrap64 (m - topI z) + 1) = m - topI z + 1 := by
    have : topI z = if 32 ≤ z then 0 else 64 - 2 * z := rfl
    unfold wrap64
    unfold Sz1 at hz
    split at this <;> omega
  rw [ho] at hq
  have hmay : mayB (szI n m) (m - topI (szI n m) + 1) r w = true := by
    rw [e, mayB_iff]; unfold Sz1 at hz; omega
  have hok' : okD n r m w = true := by
    unfold okD; rw [hmay]; simp; omega
  have hE : decE n r m w = 0 := by
    unfold decE; rw [hok', show widB w = true by simpa [widB] using hw]; rfl
  refine ⟨hE, ho, Lib.hid fun W => ?_⟩
  have hv := rvalue_any _ _ _ _ (pat_of (szI_sz n m w _ r (by omega) hmay) hmay) (by omega : w.toNat = 32 ∨ w.toNat = 64) W
  have e3 : decI n r m w = _ := if_pos hE
  unfold Sz1 at hz
  rw [int_of (by omega), int_of (by rw [e]; omega), int_of (by omega), int_of (by omega), ← e3, e] at hv
  rw [ho]
  exact hv
set_option maxHeartbeats 4000000 in
theorem rdecode_any (n r m w : Int) (hn : I64 n) (hr : I64 r) (hm : I64 m) (hw : I64 w) (W : World) :
    Calls Tryz.prog 140 #[.int .i64 n, .int .i64 r, .int .i64 m, .int .i64 w] W (Ret (.tuple #[.int .u64 (decI n r m w), .int .i64 (decE n r m w)]) W) := by
  by_cases h1 : w = 32 ∨ w = 64
  · have e1 : widB w = true := by simpa [widB] using h1
    generalize hv : Value.tuple #[.int .u64 (decI n r m w), .int .i64 (decE n r m w)] = V
    go_enter Tryz.func140, Tryz.ntmps140
    go_wp2_with (first
          | (go_at_call 139; refine (bad_any _ _).mono ?_; rintro e wA ⟨rfl, hbA⟩; rw [e1]))
    go_loopw [10] (fun s wr => Below W.heap.size W wr ∧ ∃ z : Int, (Sz1 z ∨ z = 128) ∧ s = .int .i64 z ∧ Hid (∀ y, Sz1 y → y < z → refB n r m y = false)) (fun s _ => (130 - intOf s).toNat)
    case atStart => exact ⟨hbA, 2, .inl (.inl rfl), rfl, Lib.hid (fun y h1 h2 => by unfold Sz1 at h1; omega)⟩
    case round =>
      obtain ⟨hB0, z, hz, rfl, hl⟩ := hrel
      by_cases hzw : z ≤ w
      · have hz1 : Sz1 z := by rcases hz with h | h; exact h; omega
        have hzz : z = 2 ∨ z = 4 ∨ z = 8 ∨ z = 16 ∨ z = 32 ∨ z = 64 := hz1
        have hi := refB_iff n r m z hz1 hm
        have ht := Lib.hid (top_any z hz1)
        by_cases hrb : refB n r m z = true
        · have q := hi.1 hrb
          clear hi
          have hval := refB_val n r m z w hz1 hm h1 hzw hrb
          rw [← hv]
          clear hl hz hz1 hrb hv hzz
          obtain ⟨hd1, hd2, hval⟩ := hval
          rw [hd1]
          clear hd1 hd2
          generalize decI n r m w = dd at *
          generalize topI z = tz at *
          obtain ⟨q1, q2, q3, q4, q5, q6, q7, q8⟩ := q
          rcases q2 with rfl | rfl
          · have f1 : (z == 64) = false := beq_false_of_ne (by omega)
            clear q1
            go_wp2_with (first
              | (go_at_call 162; refine (ht.out _).mono ?_; rintro e wB ⟨rfl, hbB⟩; have hB1 := bthen hB0 hbB hB0.size)
              | (go_at_call 163; refine (hval.out _).mono ?_; rintro e wC ⟨rfl, hbC⟩; have hB2 := bthen hB1 hbC hB1.size))
            go_returns
            exact ⟨rfl, hB2⟩
          · obtain rfl : z = 64 := by omega
            clear q1
            go_wp2_with (first
              | (go_at_call 162; refine (ht.out _).mono ?_; rintro e wB ⟨rfl, hbB⟩; have hB1 := bthen hB0 hbB hB0.size)
              | (go_at_call 163; refine (hval.out _).mono ?_; rintro e wC ⟨rfl, hbC⟩; have hB2 := bthen hB1 hbC hB1.size))
            go_returns
            exact ⟨rfl, hB2⟩
        · have hl2 : Hid (∀ y, Sz1 y → y < z * 2 → refB n r m y = false) := Lib.hid (fun y h1 h2 => by
            by_cases h3 : y < z
            · exact hl.out y h1 h3
            · have : y = z := by unfold Sz1 at h1; omega
              rw [this]; simpa using hrb)
          have hq := Lib.hid (mt hi.2 hrb)
          have hz2 : Sz1 (z * 2) ∨ z * 2 = 128 := by unfold Sz1; omega
          have hz3 : z ≤ 64 ∧ 2 ≤ z := by omega
          clear hi hrb hl hz1 hzz hz
          generalize topI z = tz at *
          by_cases n0 : n = 0
          · subst n0
            by_cases z6 : z = 64
            · subst z6
              go_wp2_with (first
              | (go_at_call 162; refine (ht.out _).mono ?_; rintro e wB ⟨rfl, hbB⟩; have hB1 := bthen hB0 hbB hB0.size)
              | (go_at_call 163; exfalso; exact hq.out ⟨by first | omega | simp, by first | omega | simp, by omega, by omega, by omega, by omega, by omega, by omega⟩))
              all_goals first | (exfalso; exact hq.out ⟨by first | omega | simp, by first | omega | simp, by omega, by omega, by omega, by omega, by omega, by omega⟩) | exact ⟨⟨hB1, _, hz2, rfl, hl2⟩, by decide⟩
            · have f1 : (z == 64) = false := beq_false_of_ne z6
              go_wp2_with (first
              | (go_at_call 162; refine (ht.out _).mono ?_; rintro e wB ⟨rfl, hbB⟩; have hB1 := bthen hB0 hbB hB0.size)
              | (go_at_call 163; exfalso; exact hq.out ⟨by first | omega | simp, by first | omega | simp, by omega, by omega, by omega, by omega, by omega, by omega⟩))
              all_goals first | (exfalso; exact hq.out ⟨by first | omega | simp, by first | omega | simp, by omega, by omega, by omega, by omega, by omega, by omega⟩) | exact ⟨⟨hB1, _, hz2, rfl, hl2⟩, by simp [intOf]; omega⟩
          · have f0 : (n == 0) = false := beq_false_of_ne n0
            by_cases n1 : n = 1
            · subst n1
              by_cases z6 : z = 64
              · subst z6
                go_wp2_with (first
              | (go_at_call 162; refine (ht.out _).mono ?_; rintro e wB ⟨rfl, hbB⟩; have hB1 := bthen hB0 hbB hB0.size)
              | (go_at_call 163; exfalso; exact hq.out ⟨by first | omega | simp, by first | omega | simp, by omega, by omega, by omega, by omega, by omega, by omega⟩))
                all_goals first | (exfalso; exact hq.out ⟨by first | omega | simp, by first | omega | simp, by omega, by omega, by omega, by omega, by omega, by omega⟩) | exact ⟨⟨hB1, _, hz2, rfl, hl2⟩, by decide⟩
              · have f1 : (z == 64) = false := beq_false_of_ne z6
                go_wp2_with (first
              | (go_at_call 162; refine (ht.out _).mono ?_; rintro e wB ⟨rfl, hbB⟩; have hB1 := bthen hB0 hbB hB0.size)
              | (go_at_call 163; exfalso; exact hq.out ⟨by first | omega | simp, by first | omega | simp, by omega, by omega, by omega, by omega, by omega, by omega⟩))
                all_goals first | (exfalso; exact hq.out ⟨by first | omega | simp, by first | omega | simp, by omega, by omega, by omega, by omega, by omega, by omega⟩) | exact ⟨⟨hB1, _, hz2, rfl, hl2⟩, by simp [intOf]; omega⟩
            · have f1 : (n == 1) = false := beq_false_of_ne n1
              by_cases z6 : z = 64
              · subst z6
                go_wp2_with (first
              | (go_at_call 162; refine (ht.out _).mono ?_; rintro e wB ⟨rfl, hbB⟩; have hB1 := bthen hB0 hbB hB0.size)
              | (go_at_call 163; exfalso; exact hq.out ⟨by first | omega | simp, by first | omega | simp, by omega, by omega, by omega, by omega, by omega, by omega⟩))
                all_goals first | (exfalso; exact hq.out ⟨by first | omega | simp, by first | omega | simp, by omega, by omega, by omega, by omega, by omega, by omega⟩) | exact ⟨⟨hB1, _, hz2, rfl, hl2⟩, by decide⟩
              · have f2 : (z == 64) = false := beq_false_of_ne z6
                go_wp2_with (first
              | (go_at_call 162; refine (ht.out _).mono ?_; rintro e wB ⟨rfl, hbB⟩; have hB1 := bthen hB0 hbB hB0.size)
              | (go_at_call 163; exfalso; exact hq.out ⟨by first | omega | simp, by first | omega | simp, by omega, by omega, by omega, by omega, by omega, by omega⟩))
                all_goals first | (exfalso; exact hq.out ⟨by first | omega | simp, by first | omega | simp, by omega, by omega, by omega, by omega, by omega, by omega⟩) | exact ⟨⟨hB1, _, hz2, rfl, hl2⟩, by simp [intOf]; omega⟩
      · have hbad : okD n r m w = false := by
          rw [Bool.eq_false_iff]
          intro hok
          have hok2 := hok
          unfold okD at hok2
          simp only [Bool.and_eq_true, decide_eq_true_eq, mayB_iff] at hok2
          have hs := szI_sz n m w _ r (by omega) (by rw [mayB_iff]; exact hok2.2)
          have hs1 : Sz1 (szI n m) := by unfold Sz at hs; unfold Sz1; omega
          have := hl.out _ hs1 (by omega)
          have ht : refB n r m (szI n m) = true := by
            unfold refB okD
            simp only [Bool.and_eq_true, decide_eq_true_eq, mayB_iff]
            unfold Sz1 at hs1
            refine ⟨⟨hok2.1, ?_⟩, trivial⟩
            omega
          rw [this] at ht
          exact absurd ht (by decide)
        have hE : decE n r m w = 20 := by unfold decE; rw [e1, hbad]; rfl
        have hI : decI n r m w = 0 := if_neg (by omega)
        have hV : V = .tuple #[.int .u64 0, .int .i64 20] := by rw [← hv, hE, hI]
        clear hE hI hl hbad hz hv
        go_wp2
        go_returns
        exact ⟨by simp, hB0⟩
  · have e1 := wid_not h1
    have e2 : decE n r m w = 1 := by simp [decE, e1]
    have e3 : decI n r m w = 0 := if_neg (by omega)
    rw [e2, e3]
    clear e2 e3 h1
    go_enter Tryz.func140, Tryz.ntmps140
    go_wp2_with (first
          | (go_at_call 139; refine (bad_any _ _).mono ?_; rintro e wA ⟨rfl, hbA⟩; rw [e1]))
    go_returns
    exact ⟨rfl, hbA⟩
theorem rvaluef_any (f w : Int) (hf : I64 f) (hw : I64 w) (W : World) :
    Calls Tryz.prog 101 #[.int .i64 f, .int .i64 w] W (Ret (.tuple #[.int .u64 (fldI f w), .int .i64 (fldE f w)]) W) := by
  by_cases h1 : w = 32 ∨ w = 64
  · have e1 : widB w = true := by simpa [widB] using h1
    by_cases h2 : 0 ≤ f ∧ f < 8192
    · have e2 : fldE f w = decE (f / 4096) (f / 64 % 64) (f % 64) w := by simp [fldE, e1, h2]
      have e3 : fldI f w = decI (f / 4096) (f / 64 % 64) (f % 64) w := by simp [fldI, e1, h2]
      rw [e2, e3]
      obtain ⟨c1, c2⟩ := h2
      clear e2 e3 h1
      have q1 : I64 (f / 4096) := by unfold I64; omega
      have q2 : I64 (f / 64 % 64) := by unfold I64; omega
      have q3 : I64 (f % 64) := by unfold I64; omega
      have d1 : (f / 64).tmod 64 = f / 64 % 64 := Int.tmod_eq_emod_of_nonneg (by omega)
      have d2 : f.tmod 64 = f % 64 := Int.tmod_eq_emod_of_nonneg (by omega)
      go_enter Tryz.func101, Tryz.ntmps101
      go_wp2_with (first
          | (go_at_call 139; refine (bad_any _ _).mono ?_; rintro e wA ⟨rfl, hbA⟩; rw [e1])
          | (go_at_call 140; refine (rdecode_any _ _ _ _ q1 q2 q3 hw _).mono ?_; rintro e wB ⟨rfl, hbB⟩; have hB := bthen hbA hbB hbA.size))
      go_returns
      exact ⟨rfl, hB⟩
    · have e2 : fldE f w = 20 := by unfold fldE; rw [if_pos e1, if_neg h2]
      have e3 : fldI f w = 0 := by unfold fldI; rw [if_pos e1, if_neg h2]
      rw [e2, e3]
      clear e2 e3 h1
      go_enter Tryz.func101, Tryz.ntmps101
      go_wp2_with (first
          | (go_at_call 139; refine (bad_any _ _).mono ?_; rintro e wA ⟨rfl, hbA⟩; rw [e1])
          | (go_at_call 140; exfalso; omega))
      all_goals (go_returns; exact ⟨rfl, hbA⟩)
  · have e1 := wid_not h1
    have e2 : fldE f w = 1 := by simp [fldE, e1]
    have e3 : fldI f w = 0 := by simp [fldI, e1]
    rw [e2, e3]
    clear e2 e3 h1
    go_enter Tryz.func101, Tryz.ntmps101
    go_wp2_with (first
          | (go_at_call 139; refine (bad_any _ _).mono ?_; rintro e wA ⟨rfl, hbA⟩; rw [e1]))
    go_returns
    exact ⟨rfl, hbA⟩
end Go.Proofs.YtopfaapcekiojaaGreat
