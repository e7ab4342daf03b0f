/- The plain law of find: how many ones an element has; when a value is of an element that comes again; the pattern of a value. -/
import Derived.Test.YtopfaapcekiojaaGreatLogF
namespace Go.Proofs.YtopfaapcekiojaaGreat
set_option linter.unusedVariables false

/-- how many of the first k bits are ones -/
def cnt (f : Nat → Bool) : Nat → Nat
  | 0 => 0
  | k + 1 => cnt f k + (if f k then 1 else 0)
theorem cnt_congr {f g : Nat → Bool} : ∀ k, (∀ i, i < k → f i = g i) → cnt f k = cnt g k
  | 0, _ => rfl
  | k + 1, h => by rw [cnt, cnt, cnt_congr k (fun i hi => h i (by omega)), h k (by omega)]
theorem cnt_le (f : Nat → Bool) : ∀ k, cnt f k ≤ k
  | 0 => by simp [cnt]
  | k + 1 => by
    have := cnt_le f k
    rw [cnt]; split <;> omega
theorem cnt_shift (f : Nat → Bool) : ∀ k, cnt (fun i => f (i + 1)) k + (if f 0 then 1 else 0) = cnt f k + (if f k then 1 else 0)
  | 0 => by simp [cnt]
  | k + 1 => by
    have := cnt_shift f k
    rw [cnt, cnt]
    omega
theorem cnt_front (f : Nat → Bool) (k : Nat) : cnt f (k + 1) = (if f 0 then 1 else 0) + cnt (fun i => f (i + 1)) k := by
  have := cnt_shift f k
  rw [cnt]; omega
theorem pc_cnt : ∀ (k x : Nat), Pop.pc k x = cnt (fun i => x.testBit i) k
  | 0, x => rfl
  | k + 1, x => by
    rw [cnt_front, Pop.pc, pc_cnt k (x / 2)]
    congr 1
    · rw [Nat.testBit_zero]
      have := Nat.mod_two_eq_zero_or_one x
      rcases this with h | h <;> simp [h]
    · exact cnt_congr k (fun i _ => by rw [Nat.testBit_succ])
theorem cnt_low (o : Nat) : ∀ k, cnt (fun i => decide (i < o)) k = min k o
  | 0 => by simp [cnt]
  | k + 1 => by
    rw [cnt, cnt_low o k]
    by_cases h : k < o
    · simp [h]; omega
    · simp [h]; omega
theorem cnt_turn (s o : Nat) (hs : 0 < s) (ho : o ≤ s) : ∀ t, cnt (fun i => decide ((i + t) % s < o)) s = o
  | 0 => by
    have e : cnt (fun i => decide ((i + 0) % s < o)) s = cnt (fun i => decide (i < o)) s := cnt_congr s (fun i hi => by rw [Nat.add_zero, Nat.mod_eq_of_lt hi])
    rw [e, cnt_low]; omega
  | t + 1 => by
    have h := cnt_shift (fun i => decide ((i + t) % s < o)) s
    have ih := cnt_turn s o hs ho t
    have e : (s + t) % s = (0 + t) % s := by rw [Nat.add_comm, Nat.add_mod_right, Nat.zero_add]
    simp only [e] at h
    have e2 : cnt (fun i => decide ((i + (t + 1)) % s < o)) s = cnt (fun i => decide ((i + 1 + t) % s < o)) s := cnt_congr s (fun i _ => by rw [show i + (t + 1) = i + 1 + t by omega])
    rw [e2]
    omega
theorem cnt_split (f : Nat → Bool) (a : Nat) : ∀ b, cnt f (a + b) = cnt f a + cnt (fun i => f (a + i)) b
  | 0 => by simp [cnt]
  | b + 1 => by
    rw [← Nat.add_assoc, cnt, cnt, cnt_split f a b, Nat.add_assoc]
theorem cnt_none {f : Nat → Bool} : ∀ k, (∀ i, i < k → f i = false) → cnt f k = 0
  | 0, _ => rfl
  | k + 1, h => by rw [cnt, cnt_none k (fun i hi => h i (by omega)), h k (by omega)]; rfl
/-- the ones of an element -/
theorem valN_ones (s o t : Nat) (hs : 0 < s) (h64 : s ≤ 64) (ho : o ≤ s) : Pop.pc 64 (valN s o t s) = o := by
  rw [pc_cnt]
  have e64 : 64 = s + (64 - s) := by omega
  rw [e64, cnt_split]
  have e1 : cnt (fun i => (valN s o t s).testBit i) s = cnt (fun i => decide ((i + t) % s < o)) s := cnt_congr s (fun i hi => by simp [valN, natOf_bit, hi, oneAt_eq])
  have e2 : cnt (fun i => (valN s o t s).testBit (s + i)) (64 - s) = 0 := cnt_none _ (fun i _ => by
    have : ¬ s + i < s := by omega
    simp [valN, natOf_bit, this])
  rw [e1, e2, cnt_turn s o hs ho, Nat.add_zero]

/-- a value is of an element of that size, that comes again -/
def Again (v z w : Nat) : Prop := ∀ a, z ∣ a → a < w → v / 2 ^ a % 2 ^ z = v % 2 ^ z
theorem again_bit {v z w : Nat} (h : Again v z w) (hz : z ∣ w) (hw : 0 < z) (i : Nat) (hi : i + z < w) : v.testBit (i + z) = v.testBit i := by
  have key : ∀ j, j < w → v.testBit j = v.testBit (j % z) := fun j hj => by
    have hd := Nat.div_add_mod j z
    have hm := Nat.mod_lt j hw
    have := congrArg (fun x => Nat.testBit x (j % z)) (h (z * (j / z)) (Nat.dvd_mul_right _ _) (by omega))
    simp only [Nat.testBit_mod_two_pow, Nat.testBit_div_two_pow, hm, decide_true, Bool.true_and] at this
    have e : j % z + z * (j / z) = j := by omega
    rw [e] at this
    exact this
  rw [key (i + z) hi, key i (by omega), Nat.add_mod_right]
theorem valN_lt (s o t w : Nat) : valN s o t w < 2 ^ w := natOf_lt _ w
theorem valN_low (s o t w : Nat) (h : s ≤ w) : valN s o t w % 2 ^ s = valN s o t s := by
  apply Nat.eq_of_testBit_eq
  intro i
  rw [Nat.testBit_mod_two_pow, valN, valN, natOf_bit, natOf_bit]
  by_cases hi : i < s
  · have : i < w := by omega
    simp [hi, this]
  · simp [hi]
theorem valN_again (s o t w : Nat) (hd : s ∣ w) (hs : 0 < s) : Again (valN s o t w) s w := fun a ha haw => by
  apply Nat.eq_of_testBit_eq
  intro i
  rw [Nat.testBit_mod_two_pow, Nat.testBit_mod_two_pow, Nat.testBit_div_two_pow, valN, natOf_bit, natOf_bit]
  by_cases hi : i < s
  · have h1 : a + s ≤ w := by
      obtain ⟨p, rfl⟩ := ha
      obtain ⟨q, rfl⟩ := hd
      have : p < q := Nat.lt_of_mul_lt_mul_left haw
      have := Nat.mul_le_mul_left s this
      rw [Nat.mul_succ] at this
      exact this
    have h2 : i + a < w := by omega
    have h3 : i < w := by omega
    have e := oneAt_add s o t i a ha
    rw [Nat.add_comm] at e
    simp [hi, h2, h3, e]
  · simp [hi]
theorem again_all (v w : Nat) (hv : v < 2 ^ w) : Again v w w := fun a ha haw => by
  obtain ⟨k, rfl⟩ := ha
  have : k = 0 := by
    rcases k with _ | k
    · rfl
    · rw [Nat.mul_succ] at haw; omega
  subst this
  simp
/-- v is a pattern's value -/
def IsPat (v w s o t : Nat) : Prop := Pat s o t w ∧ valN s o t w = v
/-- the least size at which an element comes again is its pattern's -/
theorem pat_size {v w s o t z : Nat} (hw : w = 32 ∨ w = 64) (h : IsPat v w s o t) (hz : Sz z) (hzw : z ≤ w) (ha : Again v z w) (hl : ∀ y, Sz y → y < z → ¬ Again v y w) : s = z ∧ Pop.pc 64 (v % 2 ^ z) = o := by
  obtain ⟨⟨p1, p2, p3, p4, p5⟩, rfl⟩ := h
  have hs0 : 0 < s := by omega
  have hz0 : 0 < z := by rcases hz with rfl | rfl | rfl | rfl | rfl | rfl <;> decide
  have n1 : ¬ s < z := fun h => hl s p1 h (valN_again s o t w (sz_dvd p1 hw p2) hs0)
  have n2 : ¬ z < s := fun h => by
    have hd := sz_dvd2 hz p1 (by omega)
    refine no_less hz0 hd h p3 p4 p5 (fun i => ?_)
    have hb := again_bit ha (sz_dvd hz hw hzw) hz0
    have key : ∀ j, j < s → oneAt s o t (j + z) = oneAt s o t j := fun j hj => by
      by_cases hjz : j + z < w
      · have := hb j hjz
        rw [valN, natOf_bit, natOf_bit] at this
        have h1 : j < w := by omega
        simpa [hjz, h1] using this
      · have hsw : s = w := by
          rcases Nat.lt_or_ge s w with h | h
          · have := sz_dvd p1 hw p2
            obtain ⟨q, rfl⟩ := this
            have : 2 ≤ q := by
              rcases q with _ | _ | q
              · omega
              · omega
              · omega
            have := Nat.mul_le_mul_left s this
            omega
          · omega
        subst hsw
        have e1 : oneAt s o t (j + z) = oneAt s o t (j + z - s) := by
          have := oneAt_add s o t (j + z - s) s (Nat.dvd_refl _)
          rw [show s + (j + z - s) = j + z by omega] at this
          exact this
        rw [e1]
        have hd2 := sz_dvd2 hz p1 (by omega)
        have many : ∀ k, ∀ i, i + k * z < s → oneAt s o t (i + k * z) = oneAt s o t i := fun k => by
          induction k with
          | zero => intro i _; simp
          | succ k ih =>
            intro i hi
            rw [Nat.succ_mul] at hi
            have h1 := hb (i + k * z) (by omega)
            rw [valN, natOf_bit, natOf_bit] at h1
            have q1 : i + k * z < s := by omega
            have q2 : i + k * z + z < s := by omega
            rw [Nat.succ_mul, ← Nat.add_assoc, ← ih i q1]
            simpa [q1, q2] using h1
        obtain ⟨q, hq⟩ := hd2
        have hq1 : 1 ≤ q := by
          rcases q with _ | q
          · omega
          · omega
        obtain ⟨k, rfl⟩ : ∃ k, q = k + 1 := ⟨q - 1, by omega⟩
        have e3 : s = k * z + z := by rw [hq, Nat.mul_comm, Nat.succ_mul]
        have := many k (j + z - s) (by omega)
        rw [show j + z - s + k * z = j by omega] at this
        exact this.symm
    have e1 := key (i % s) (Nat.mod_lt _ hs0)
    rw [oneAt_mod] at e1
    rw [← e1, ← oneAt_mod s o t (i + z), ← oneAt_mod s o t (i % s + z)]
    congr 1
    rw [Nat.mod_add_mod]
  have e : s = z := by omega
  subst e
  exact ⟨rfl, by rw [valN_low s o t w p2]; exact valN_ones s o t hs0 (by omega) (by omega)⟩
/-- the pattern of a value -/
def HasPat (v w : Nat) : Prop := ∃ p : Nat × Nat × Nat, IsPat v w p.1 p.2.1 p.2.2
noncomputable def patV (v w : Nat) : Nat × Nat × Nat := open Classical in if h : HasPat v w then Classical.choose h else (0, 0, 0)
theorem patV_is {v w s o t : Nat} (hw : w = 32 ∨ w = 64) (h : IsPat v w s o t) : patV v w = (s, o, t) := by
  have hh : HasPat v w := ⟨(s, o, t), h⟩
  unfold patV
  rw [dif_pos hh]
  have hc := Classical.choose_spec hh
  obtain ⟨h1, h2⟩ := hc
  obtain ⟨h3, h4⟩ := h
  obtain ⟨a, b, c⟩ := pat_one hw h1 h3 (h2.trans h4.symm)
  exact Prod.ext a (Prod.ext b c)
theorem patV_no {v w : Nat} (h : ¬ HasPat v w) : patV v w = (0, 0, 0) := by
  unfold patV; rw [dif_neg h]
theorem patV_spec {v w : Nat} (h : HasPat v w) : IsPat v w (patV v w).1 (patV v w).2.1 (patV v w).2.2 := by
  unfold patV; rw [dif_pos h]; exact Classical.choose_spec h
end Go.Proofs.YtopfaapcekiojaaGreat
