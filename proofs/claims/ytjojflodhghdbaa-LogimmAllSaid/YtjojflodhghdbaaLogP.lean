/- Logical immediates: there and back; a value turned over; a value twice behind itself. -/
import Derived.Test.YtjojflodhghdbaaLogL
namespace Go.Proofs.Ytjojflodhghdbaa
open Go.RowKit Go.Sort
set_option linter.unusedVariables false

theorem szI_enc (s o : Nat) (h : Sz s) (h1 : 1 ≤ o) (h2 : o < s) : szI (if s = 64 then 1 else 0) (topI (s : Int) + (o : Int) - 1) = (s : Int) := by
  have ht : topI (s : Int) = if 32 ≤ (s : Int) then 0 else 64 - 2 * (s : Int) := rfl
  rw [ht]
  unfold szI
  rcases h with rfl | rfl | rfl | rfl | rfl | rfl <;> simp <;> omega
theorem dec_enc (v w : Int) (hv : U64 v) (h : patErr v w = 0) : decE (encN v w) (encR v w) (encM v w) w = 0 ∧ decI (encN v w) (encR v w) (encM v w) w = v := by
  rcases patErr_cases v w with ⟨_, hw, ⟨p1, p2, p3, p4, p5⟩, hval⟩ | ⟨he, _⟩
  · have hs := szI_enc _ _ p1 p3 p4
    have em : encM v w = topI ((patP v w).1 : Int) + ((patP v w).2.1 : Int) - 1 := if_pos h
    have en : encN v w = if (patP v w).1 = 64 then 1 else 0 := rfl
    have er : encR v w = ((patP v w).2.2 : Int) := rfl
    have hb := enc_bounds v w
    have hsz : szI (encN v w) (encM v w) = ((patP v w).1 : Int) := by rw [en, em]; exact hs
    have ho : encM v w - topI ((patP v w).1 : Int) + 1 = ((patP v w).2.1 : Int) := by rw [em]; omega
    have hwn : ((w.toNat : Nat) : Int) = w := by omega
    have hs2 : 2 ≤ (patP v w).1 := by unfold Sz at p1; omega
    have hok : okD (encN v w) (encR v w) (encM v w) w = true := by
      unfold okD
      rw [hsz, ho, er]
      simp only [Bool.and_eq_true, decide_eq_true_eq, mayB_iff]
      omega
    have hE : decE (encN v w) (encR v w) (encM v w) w = 0 := by
      unfold decE
      rw [hok, show widB w = true by simpa [widB] using hw]
      rfl
    refine ⟨hE, ?_⟩
    unfold decI
    rw [if_pos hE, hsz, ho, er]
    simp only [Int.toNat_natCast]
    rw [hval]
    exact Int.toNat_of_nonneg hv.1
  · omega
theorem enc_dec (n r m w : Int) (h : decE n r m w = 0) : U64 (decI n r m w) ∧ patErr (decI n r m w) w = 0 ∧ encN (decI n r m w) w = n ∧ encR (decI n r m w) w = r ∧ encM (decI n r m w) w = m := by
  have hwid : widB w = true := by
    unfold decE at h
    by_cases hw : widB w = true
    · exact hw
    · rw [if_neg hw] at h; cases h
  have hok : okD n r m w = true := by
    unfold decE at h
    rw [if_pos hwid] at h
    by_cases ho : okD n r m w = true
    · exact ho
    · rw [if_neg ho] at h; cases h
  have hw : w = 32 ∨ w = 64 := by simpa [widB] using hwid
  have hok2 := hok
  unfold okD at hok2
  simp only [Bool.and_eq_true, decide_eq_true_eq] at hok2
  obtain ⟨⟨⟨⟨n1, n2⟩, m1⟩, m2⟩, hmay⟩ := hok2
  have hsz := szI_sz n m w _ r m1 hmay
  have hP := pat_of hsz hmay
  have hw2 : w.toNat = 32 ∨ w.toNat = 64 := by omega
  obtain ⟨q1, q2, q3, q4, q5, q6⟩ := (mayB_iff _ _ _ _).1 hmay
  have hd : decI n r m w = ((valN (szI n m).toNat (m - topI (szI n m) + 1).toNat r.toNat w.toNat : Nat) : Int) := if_pos h
  have hlt := lt64 (valN_lt (szI n m).toNat (m - topI (szI n m) + 1).toNat r.toNat w.toNat) (by omega)
  have hU : U64 (decI n r m w) := by rw [hd]; exact ⟨by omega, by omega⟩
  have hip : IsPat (decI n r m w).toNat w.toNat (szI n m).toNat (m - topI (szI n m) + 1).toNat r.toNat := ⟨hP, by rw [hd, Int.toNat_natCast]⟩
  have hp : patP (decI n r m w) w = ((szI n m).toNat, (m - topI (szI n m) + 1).toNat, r.toNat) := (if_pos hwid).trans (patV_is hw2 hip)
  have he : patErr (decI n r m w) w = 0 := (if_pos hwid).trans (if_pos ⟨((szI n m).toNat, (m - topI (szI n m) + 1).toNat, r.toNat), hip⟩)
  refine ⟨hU, he, ?_, ?_, ?_⟩
  · unfold encN
    rw [hp]
    dsimp only
    have hn : n = 0 ∨ n = 1 := by omega
    rcases hn with rfl | rfl
    · rw [if_neg]
      intro e
      have : szI 0 m ≤ 32 := by unfold szI; (repeat' split) <;> omega
      omega
    · rw [if_pos]; rfl
  · unfold encR
    rw [hp]
    dsimp only
    omega
  · unfold encM
    rw [if_pos he, hp]
    dsimp only
    rw [Int.toNat_of_nonneg (by omega), Int.toNat_of_nonneg (by omega)]
    omega
theorem field_back (f w : Int) (h : fldE f w = 0) : U64 (fldI f w) ∧ patErr (fldI f w) w = 0 ∧ encF (fldI f w) w = f := by
  have hwid : widB w = true := by
    unfold fldE at h
    by_cases hw : widB w = true
    · exact hw
    · rw [if_neg hw] at h; cases h
  have hf : 0 ≤ f ∧ f < 8192 := by
    unfold fldE at h
    rw [if_pos hwid] at h
    by_cases hf : 0 ≤ f ∧ f < 8192
    · exact hf
    · rw [if_neg hf] at h; cases h
  have hE : decE (f / 4096) (f / 64 % 64) (f % 64) w = 0 := by
    unfold fldE at h
    rw [if_pos hwid, if_pos hf] at h
    exact h
  have hI : fldI f w = decI (f / 4096) (f / 64 % 64) (f % 64) w := by
    unfold fldI
    rw [if_pos hwid, if_pos hf]
  obtain ⟨h1, h2, h3, h4, h5⟩ := enc_dec _ _ _ _ hE
  rw [hI]
  refine ⟨h1, h2, ?_⟩
  unfold encF
  rw [h3, h4, h5]
  omega

/-! ### a value turned over -/
theorem over_one (s o t i : Nat) (hs : 0 < s) (ho : o < s) (ht : t < s) : oneAt s (s - o) ((t + (s - o)) % s) i = !oneAt s o t i := by
  rw [oneAt_eq, oneAt_eq]
  have e : (i + (t + (s - o)) % s) % s = ((i + t) % s + (s - o)) % s := by
    rw [Nat.add_mod_mod, Nat.mod_add_mod, Nat.add_assoc]
  rw [e]
  have hx : (i + t) % s < s := Nat.mod_lt _ hs
  generalize (i + t) % s = x at *
  by_cases h : x < o
  · rw [Nat.mod_eq_of_lt (by omega)]
    simp [h] <;> omega
  · have e2 : x + (s - o) = (x - o) + s := by omega
    rw [e2, Nat.add_mod_right, Nat.mod_eq_of_lt (by omega)]
    simp [h] <;> omega
theorem over_pat {v w s o t : Nat} (h : IsPat v w s o t) : IsPat (v ^^^ (2 ^ w - 1)) w s (s - o) ((t + (s - o)) % s) := by
  obtain ⟨⟨p1, p2, p3, p4, p5⟩, rfl⟩ := h
  refine ⟨⟨p1, p2, by omega, by omega, Nat.mod_lt _ (by omega)⟩, ?_⟩
  apply Nat.eq_of_testBit_eq
  intro i
  rw [Nat.testBit_xor, Nat.testBit_two_pow_sub_one, valN, valN, natOf_bit, natOf_bit, over_one s o t i (by omega) p4 p5]
  by_cases hi : i < w
  · simp [hi]
  · simp [hi]
theorem over_back (v w : Nat) : (v ^^^ (2 ^ w - 1)) ^^^ (2 ^ w - 1) = v := by rw [Nat.xor_assoc, Nat.xor_self, Nat.xor_zero]
theorem over_has (v w : Nat) : HasPat (v ^^^ (2 ^ w - 1)) w ↔ HasPat v w := by
  constructor
  · rintro ⟨⟨s, o, t⟩, h⟩
    have := over_pat h
    rw [over_back] at this
    exact ⟨(s, s - o, (t + (s - o)) % s), this⟩
  · rintro ⟨⟨s, o, t⟩, h⟩
    exact ⟨(s, s - o, (t + (s - o)) % s), over_pat h⟩
theorem zero_none (w : Nat) : ¬ HasPat 0 w := by
  rintro ⟨⟨s, o, t⟩, ⟨p1, p2, p3, p4, p5⟩, h⟩
  dsimp only at *
  have hs : 0 < s := by omega
  have := congrArg (fun x => Nat.testBit x ((s - t) % s)) h
  simp only [valN, natOf_bit, Nat.zero_testBit] at this
  have hi : (s - t) % s < w := by have := Nat.mod_lt (s - t) hs; omega
  have h1 : oneAt s o t ((s - t) % s) = true := by
    rw [oneAt_eq, Nat.mod_add_mod, show s - t + t = s by omega, Nat.mod_self]
    exact decide_eq_true (by omega)
  rw [h1] at this
  simp [hi] at this
theorem ones_none (w : Nat) : ¬ HasPat (2 ^ w - 1) w := by
  intro h
  have := (over_has (2 ^ w - 1) w).2 h
  rw [Nat.xor_self] at this
  exact zero_none w this
/-- twice behind itself -/
theorem twice_bit (x i : Nat) (hx : x < 2 ^ 32) : (x * 2 ^ 32 + x).testBit i = if i < 32 then x.testBit i else x.testBit (i - 32) := by
  rw [Nat.mul_comm, Nat.testBit_two_pow_mul_add _ hx]
theorem twice_has (x : Nat) (hx : x < 2 ^ 32) : HasPat (x * 2 ^ 32 + x) 64 ↔ HasPat x 32 := by
  constructor
  · rintro ⟨⟨s, o, t⟩, ⟨p1, p2, p3, p4, p5⟩, h⟩
    dsimp only at *
    have hb : ∀ i, i < 64 → oneAt s o t i = if i < 32 then x.testBit i else x.testBit (i - 32) := fun i hi => by
      rw [← twice_bit x i hx, ← h, valN, natOf_bit]
      simp [hi]
    have hs32 : s ≤ 32 := by
      rcases Nat.lt_or_ge 32 s with h | h
      · have e : s = 64 := by unfold Sz at p1; omega
        subst e
        exfalso
        refine no_less (s := 32) (s' := 64) (by decide) (by decide) (by decide) p3 p4 p5 (fun i => ?_)
        rw [← oneAt_mod, ← oneAt_mod 64 o t i]
        have hm : i % 64 < 64 := Nat.mod_lt _ (by decide)
        have e : (i + 32) % 64 = if i % 64 < 32 then i % 64 + 32 else i % 64 - 32 := by split <;> omega
        rw [e]
        split
        · rename_i hlt
          rw [hb _ (by omega), hb _ hm, if_neg (by omega), if_pos hlt, Nat.add_sub_cancel]
        · rename_i hlt
          rw [hb _ (by omega), hb _ hm, if_pos (by omega), if_neg hlt]
      · exact h
    refine ⟨(s, o, t), ⟨p1, hs32, p3, p4, p5⟩, ?_⟩
    apply Nat.eq_of_testBit_eq
    intro i
    rw [valN, natOf_bit]
    by_cases hi : i < 32
    · rw [hb i (by omega), if_pos hi]; simp [hi]
    · rw [Nat.testBit_lt_two_pow (Nat.lt_of_lt_of_le hx (Nat.pow_le_pow_right (by decide) (by omega)))]
      simp [hi]
  · rintro ⟨⟨s, o, t⟩, ⟨p1, p2, p3, p4, p5⟩, h⟩
    dsimp only at *
    refine ⟨(s, o, t), ⟨p1, by omega, p3, p4, p5⟩, ?_⟩
    apply Nat.eq_of_testBit_eq
    intro i
    have hd : s ∣ 32 := sz_dvd p1 (.inl rfl) p2
    rw [twice_bit x i hx, valN, natOf_bit]
    have hxb : ∀ j, x.testBit j = (decide (j < 32) && oneAt s o t j) := fun j => by rw [← h, valN, natOf_bit]
    rw [hxb, hxb]
    by_cases hi : i < 32
    · have : i < 64 := by omega
      simp [hi, this]
    · rw [if_neg hi]
      have e := oneAt_add s o t (i - 32) 32 hd
      rw [show 32 + (i - 32) = i by omega] at e
      rw [← e]
      have : (i - 32 < 32) = (i < 64) := by apply propext; omega
      simp [this]
end Go.Proofs.Ytjojflodhghdbaa
