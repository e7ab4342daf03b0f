/- The plain law of the count of ones (no program in sight): how a word's ones are counted side by side. -/
namespace Go.Proofs.YtopfaapcekiojaaGreat.Pop
/-- the number of ones among the lowest k bits -/
def pc : Nat → Nat → Nat
  | 0, _ => 0
  | k + 1, x => x % 2 + pc k (x / 2)
/-- the sum of k digits of b bits -/
def ds (b : Nat) : Nat → Nat → Nat
  | 0, _ => 0
  | k + 1, x => x % 2 ^ b + ds b k (x / 2 ^ b)
/-- k masks of b bits, each 2 b bits from the next -/
def mk (b : Nat) : Nat → Nat
  | 0 => 0
  | k + 1 => (2 ^ b - 1) + 2 ^ (2 * b) * mk b k

theorem and_split (c x m M : Nat) (hm : m < 2 ^ c) : x &&& (m + 2 ^ c * M) = (x % 2 ^ c &&& m) + 2 ^ c * (x / 2 ^ c &&& M) := by
  have h1 : m + 2 ^ c * M = 2 ^ c * M ||| m := by rw [Nat.add_comm]; exact Nat.two_pow_add_eq_or_of_lt hm M
  have hlt : x % 2 ^ c &&& m < 2 ^ c := Nat.lt_of_le_of_lt Nat.and_le_right hm
  rw [Nat.add_comm (x % 2 ^ c &&& m), Nat.two_pow_add_eq_or_of_lt hlt, h1]
  apply Nat.eq_of_testBit_eq
  intro i
  simp only [Nat.testBit_and, Nat.testBit_or, Nat.testBit_two_pow_mul, Nat.testBit_mod_two_pow, Nat.testBit_div_two_pow]
  by_cases hi : i < c
  · have : ¬ c ≤ i := by omega
    simp [hi, this]
  · have hc : c ≤ i := by omega
    have hmi : m.testBit i = false := Nat.testBit_lt_two_pow (Nat.lt_of_lt_of_le hm (Nat.pow_le_pow_right (by decide) hc))
    simp [hc, hi, hmi]
    
theorem and_mk (b k x : Nat) : x &&& mk b (k + 1) = x % 2 ^ b + 2 ^ (2 * b) * (x / 2 ^ (2 * b) &&& mk b k) := by
  have hm : 2 ^ b - 1 < 2 ^ (2 * b) := by
    have h1 : 2 ^ b ≤ 2 ^ (2 * b) := Nat.pow_le_pow_right (by decide) (by omega)
    have := Nat.two_pow_pos b
    omega
  rw [mk, and_split (2 * b) x _ _ hm, Nat.and_two_pow_sub_one_eq_mod, Nat.mod_mod_of_dvd]
  exact Nat.pow_dvd_pow 2 (by omega)

/-- one step -/
def st (b k x : Nat) : Nat := ((x / 2 ^ b) &&& mk b k) + (x &&& mk b k)
theorem st_succ (b k x : Nat) : st b (k + 1) x = (x / 2 ^ b % 2 ^ b + x % 2 ^ b) + 2 ^ (2 * b) * st b k (x / 2 ^ (2 * b)) := by
  unfold st
  rw [and_mk, and_mk, Nat.mul_add]
  have e : x / 2 ^ b / 2 ^ (2 * b) = x / 2 ^ (2 * b) / 2 ^ b := by rw [Nat.div_div_eq_div_mul, Nat.div_div_eq_div_mul, Nat.mul_comm]
  rw [e]
  omega
theorem ds_st (b : Nat) (hb : 0 < b) : ∀ k x : Nat, ds (2 * b) k (st b k x) = ds b (2 * k) x
  | 0, x => rfl
  | k + 1, x => by
    rw [show 2 * (k + 1) = 2 * k + 1 + 1 by omega]
    simp only [ds]
    have hB : 2 ≤ 2 ^ b := by
      have := Nat.pow_le_pow_right (n := 2) (by decide) hb
      simpa using this
    have hB2 : 2 ^ (2 * b) = 2 ^ b * 2 ^ b := by rw [← Nat.pow_add]; congr 1; omega
    have h1 : x % 2 ^ b < 2 ^ b := Nat.mod_lt _ (by omega)
    have h2 : x / 2 ^ b % 2 ^ b < 2 ^ b := Nat.mod_lt _ (by omega)
    have hlt : x / 2 ^ b % 2 ^ b + x % 2 ^ b < 2 ^ (2 * b) := by
      rw [hB2]
      have : 2 * 2 ^ b ≤ 2 ^ b * 2 ^ b := Nat.mul_le_mul_right _ hB
      omega
    rw [st_succ, Nat.add_mul_mod_self_left, Nat.mod_eq_of_lt hlt, Nat.add_mul_div_left _ _ (Nat.two_pow_pos _), Nat.div_eq_of_lt hlt, Nat.zero_add, ds_st b hb k]
    rw [Nat.div_div_eq_div_mul, ← hB2]
    omega
theorem pc_ds : ∀ k x, pc k x = ds 1 k x
  | 0, _ => rfl
  | k + 1, x => by simp only [pc, ds, Nat.pow_one, pc_ds k]
/-- each digit is at most c -/
def le (b c : Nat) : Nat → Nat → Prop
  | 0, x => x = 0
  | k + 1, x => x % 2 ^ b ≤ c ∧ le b c k (x / 2 ^ b)
theorem le_st (b c : Nat) (hc : 2 * c < 2 ^ (2 * b)) (hcb : c < 2 ^ b) : ∀ k x, le b c (2 * k) x → le (2 * b) (2 * c) k (st b k x)
  | 0, x, h => by
    have : x = 0 := h
    subst this; simp [le, st, mk]
  | k + 1, x, h => by
    rw [show 2 * (k + 1) = 2 * k + 1 + 1 by omega] at h
    obtain ⟨h1, h2, h3⟩ := h
    have hlt : x / 2 ^ b % 2 ^ b + x % 2 ^ b < 2 ^ (2 * b) := by omega
    have hB2 : 2 ^ (2 * b) = 2 ^ b * 2 ^ b := by rw [← Nat.pow_add]; congr 1; omega
    refine ⟨?_, ?_⟩
    · rw [st_succ, Nat.add_mul_mod_self_left, Nat.mod_eq_of_lt hlt]; omega
    · rw [st_succ, Nat.add_mul_div_left _ _ (Nat.two_pow_pos _), Nat.div_eq_of_lt hlt, Nat.zero_add]
      refine le_st b c hc hcb k _ ?_
      rw [hB2, ← Nat.div_div_eq_div_mul]; exact h3
theorem le_one : ∀ k x, x < 2 ^ k → le 1 1 k x
  | 0, x, h => by simp at h; exact h
  | k + 1, x, h => ⟨by omega, le_one k _ (by rw [Nat.pow_succ] at h; omega)⟩

theorem divr (a r c : Nat) (h : a < c) : (a + c * r) / c = r := by
  rw [Nat.add_mul_div_left _ _ (Nat.lt_of_le_of_lt (Nat.zero_le _) h), Nat.div_eq_of_lt h, Nat.zero_add]
/-- eight digits -/
def dig8 (d0 d1 d2 d3 d4 d5 d6 d7 : Nat) : Nat := d0 + 256 * (d1 + 256 * (d2 + 256 * (d3 + 256 * (d4 + 256 * (d5 + 256 * (d6 + 256 * d7))))))
theorem dig8_1 (d0 d1 d2 d3 d4 d5 d6 d7 : Nat) (h : d0 ≤ 8) : dig8 d0 d1 d2 d3 d4 d5 d6 d7 + dig8 d0 d1 d2 d3 d4 d5 d6 d7 / 256 = dig8 (d0 + d1) (d1 + d2) (d2 + d3) (d3 + d4) (d4 + d5) (d5 + d6) (d6 + d7) d7 := by
  have : dig8 d0 d1 d2 d3 d4 d5 d6 d7 / 256 = d1 + 256 * (d2 + 256 * (d3 + 256 * (d4 + 256 * (d5 + 256 * (d6 + 256 * d7))))) := divr _ _ 256 (by omega)
  rw [this]; unfold dig8; omega
theorem dig8_2 (d0 d1 d2 d3 d4 d5 d6 d7 : Nat) (h : d0 ≤ 16) (h1 : d1 ≤ 16) : dig8 d0 d1 d2 d3 d4 d5 d6 d7 + dig8 d0 d1 d2 d3 d4 d5 d6 d7 / 65536 = dig8 (d0 + d2) (d1 + d3) (d2 + d4) (d3 + d5) (d4 + d6) (d5 + d7) d6 d7 := by
  have : dig8 d0 d1 d2 d3 d4 d5 d6 d7 / 65536 = d2 + 256 * (d3 + 256 * (d4 + 256 * (d5 + 256 * (d6 + 256 * d7)))) := by
    have e : dig8 d0 d1 d2 d3 d4 d5 d6 d7 = (d0 + 256 * d1) + 65536 * (d2 + 256 * (d3 + 256 * (d4 + 256 * (d5 + 256 * (d6 + 256 * d7))))) := by unfold dig8; omega
    rw [e]; exact divr _ _ 65536 (by omega)
  rw [this]; unfold dig8; omega
theorem dig8_4 (d0 d1 d2 d3 d4 d5 d6 d7 : Nat) (h : d0 ≤ 32) (h1 : d1 ≤ 32) (h2 : d2 ≤ 32) (h3 : d3 ≤ 32) : dig8 d0 d1 d2 d3 d4 d5 d6 d7 + dig8 d0 d1 d2 d3 d4 d5 d6 d7 / 4294967296 = dig8 (d0 + d4) (d1 + d5) (d2 + d6) (d3 + d7) d4 d5 d6 d7 := by
  have : dig8 d0 d1 d2 d3 d4 d5 d6 d7 / 4294967296 = d4 + 256 * (d5 + 256 * (d6 + 256 * d7)) := by
    have e : dig8 d0 d1 d2 d3 d4 d5 d6 d7 = (d0 + 256 * d1 + 65536 * d2 + 16777216 * d3) + 4294967296 * (d4 + 256 * (d5 + 256 * (d6 + 256 * d7))) := by unfold dig8; omega
    rw [e]; exact divr _ _ 4294967296 (by omega)
  rw [this]; unfold dig8; omega
theorem dig8_lt (d0 d1 d2 d3 d4 d5 d6 d7 : Nat) (h0 : d0 ≤ 255) (h1 : d1 ≤ 255) (h2 : d2 ≤ 255) (h3 : d3 ≤ 255) (h4 : d4 ≤ 255) (h5 : d5 ≤ 255) (h6 : d6 ≤ 255) (h7 : d7 ≤ 255) : dig8 d0 d1 d2 d3 d4 d5 d6 d7 < 18446744073709551616 := by
  unfold dig8; omega
theorem of_le8 (y : Nat) (h : le 8 8 8 y) : ∃ d0 d1 d2 d3 d4 d5 d6 d7, y = dig8 d0 d1 d2 d3 d4 d5 d6 d7 ∧ d0 ≤ 8 ∧ d1 ≤ 8 ∧ d2 ≤ 8 ∧ d3 ≤ 8 ∧ d4 ≤ 8 ∧ d5 ≤ 8 ∧ d6 ≤ 8 ∧ d7 ≤ 8 ∧ ds 8 8 y = d0 + d1 + d2 + d3 + d4 + d5 + d6 + d7 := by
  simp only [le, Nat.reducePow] at h
  obtain ⟨h0, h1, h2, h3, h4, h5, h6, h7, h8⟩ := h
  refine ⟨_, _, _, _, _, _, _, _, ?_, h0, h1, h2, h3, h4, h5, h6, h7, ?_⟩
  · unfold dig8
    have m (x : Nat) : x = x % 256 + 256 * (x / 256) := (Nat.mod_add_div x 256).symm
    have e7 := m (y / 256 / 256 / 256 / 256 / 256 / 256 / 256)
    rw [h8, Nat.mul_zero, Nat.add_zero] at e7
    rw [← e7, ← m, ← m, ← m, ← m, ← m, ← m, ← m]
  · simp only [ds, Nat.reducePow]; omega
/-- the last three steps: eight bytes of at most 8 -/
theorem last (y : Nat) (h : le 8 8 8 y) : ∃ a b c, y + y / 256 = a ∧ a < 18446744073709551616 ∧ a + a / 65536 = b ∧ b < 18446744073709551616 ∧ b + b / 4294967296 = c ∧ c < 18446744073709551616 ∧ c % 128 = ds 8 8 y := by
  obtain ⟨d0, d1, d2, d3, d4, d5, d6, d7, rfl, h0, h1, h2, h3, h4, h5, h6, h7, hd⟩ := of_le8 y h
  refine ⟨_, _, _, dig8_1 _ _ _ _ _ _ _ _ h0, ?_, dig8_2 _ _ _ _ _ _ _ _ (by omega) (by omega), ?_, dig8_4 _ _ _ _ _ _ _ _ (by omega) (by omega) (by omega) (by omega), ?_, ?_⟩
  · apply dig8_lt <;> omega
  · apply dig8_lt <;> omega
  · apply dig8_lt <;> omega
  · rw [hd]
    have : ∀ a r : Nat, a < 128 → (a + 256 * r) % 128 = a := fun a r h => by omega
    unfold dig8
    rw [this _ _ (by omega)]; omega

theorem le_digit {b c : Nat} : ∀ {k x : Nat}, le b c (k + 1) x → x % 2 ^ b ≤ c ∧ le b c k (x / 2 ^ b) := fun h => h
/-- the third step: the sum is masked once -/
theorem third : ∀ k x, le 4 4 (2 * k) x → (x / 16 + x) &&& mk 4 k = st 4 k x
  | 0, x, h => by simp [mk, st]
  | k + 1, x, h => by
    have h' : le 4 4 (2 * k + 1 + 1) x := h
    obtain ⟨h0, h1, h2⟩ := h'
    simp only [Nat.reducePow] at h0 h1 h2
    have hr : x / 16 / 16 % 16 ≤ 4 := by
      cases k with
      | zero => have : x / 16 / 16 = 0 := h2; omega
      | succ k => exact h2.1
    have ih := third k (x / 16 / 16) h2
    rw [and_mk, st_succ]
    simp only [Nat.reducePow, Nat.reduceMul]
    have e1 : (x / 16 + x) % 16 = x / 16 % 16 + x % 16 := by omega
    have e2 : (x / 16 + x) / 256 = x / 16 / 16 / 16 + x / 16 / 16 := by omega
    have e3 : x / 256 = x / 16 / 16 := by omega
    rw [e1, e2, e3, ih]
theorem mk1 : mk 1 32 = 6148914691236517205 := by decide +kernel
theorem mk2 : mk 2 16 = 3689348814741910323 := by decide +kernel
theorem mk4 : mk 4 8 = 1085102592571150095 := by decide +kernel
theorem st_le (b k x : Nat) : st b k x ≤ mk b k + mk b k := Nat.add_le_add Nat.and_le_right Nat.and_le_right
/-- all the steps -/
theorem chain (v : Nat) (hv : v < 18446744073709551616) : ∃ x1 x2 x3 x4 x5 x6 : Nat,
    ((v / 2) &&& 6148914691236517205) + (v &&& 6148914691236517205) = x1 ∧ x1 < 18446744073709551616 ∧
    ((x1 / 4) &&& 3689348814741910323) + (x1 &&& 3689348814741910323) = x2 ∧ x2 < 8446744073709551616 ∧
    (x2 / 16 + x2) &&& 1085102592571150095 = x3 ∧ x3 < 18446744073709551616 ∧
    x3 + x3 / 256 = x4 ∧ x4 < 18446744073709551616 ∧ x4 + x4 / 65536 = x5 ∧ x5 < 18446744073709551616 ∧ x5 + x5 / 4294967296 = x6 ∧ x6 < 18446744073709551616 ∧ x6 % 128 = pc 64 v := by
  have l1 : le 1 1 64 v := le_one 64 v (by simpa using hv)
  have l2 : le 2 2 32 (st 1 32 v) := le_st 1 1 (by decide) (by decide) 32 v l1
  have l3 : le 4 4 16 (st 2 16 (st 1 32 v)) := le_st 2 2 (by decide) (by decide) 16 _ l2
  have l4 : le 8 8 8 (st 4 8 (st 2 16 (st 1 32 v))) := le_st 4 4 (by decide) (by decide) 8 _ l3
  have t := third 8 (st 2 16 (st 1 32 v)) l3
  obtain ⟨a, b, c, ha, ha', hb, hb', hc, hc', hd⟩ := last _ l4
  have s1 := st_le 1 32 v
  have s2 := st_le 2 16 (st 1 32 v)
  have s3 : st 4 8 (st 2 16 (st 1 32 v)) ≤ mk 4 8 := by rw [← t]; exact Nat.and_le_right
  have e : ds 8 8 (st 4 8 (st 2 16 (st 1 32 v))) = pc 64 v := by
    have d3 := ds_st 4 (by decide) 8 (st 2 16 (st 1 32 v))
    have d2 := ds_st 2 (by decide) 16 (st 1 32 v)
    have d1 := ds_st 1 (by decide) 32 v
    simp only [Nat.reduceMul] at d1 d2 d3
    rw [d3, d2, d1, pc_ds]
  rw [mk1] at s1
  rw [mk2] at s2
  rw [mk4] at s3
  refine ⟨st 1 32 v, st 2 16 (st 1 32 v), st 4 8 (st 2 16 (st 1 32 v)), a, b, c, ?_, by omega, ?_, by omega, ?_, by omega, ha, ha', hb, hb', hc, hc', hd.trans e⟩
  · rw [← mk1]; unfold st; simp
  · rw [← mk2]; show _ = st 2 16 _; unfold st; simp
  · rw [← mk4]; exact t
end Go.Proofs.YtopfaapcekiojaaGreat.Pop
