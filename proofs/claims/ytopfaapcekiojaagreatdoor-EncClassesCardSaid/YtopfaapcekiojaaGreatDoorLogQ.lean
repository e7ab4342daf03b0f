/- Logical immediates: there and back. -/
import Derived.Test.YtopfaapcekiojaaGreatDoorLogK
namespace Go.Proofs.YtopfaapcekiojaaGreatDoor
open Go.RowKit Go.Sort
set_option linter.unusedVariables false

theorem szI_enc (s o : Nat) (h : Sz s) (h1 : 1 ≤ o) (h2 : o < s) : szI (if s = 64 then 1 else 0) (topI (s : Int) + (o : Int) - 1) = (s : Int) := by
  have ht : topI (s : Int) = if 32 ≤ (s : Int) then 0 else 64 - 2 * (s : Int) := rfl
  rw [ht]
  unfold szI
  rcases h with rfl | rfl | rfl | rfl | rfl | rfl <;> simp <;> omega
theorem dec_enc (v w : Int) (hv : U64 v) (h : patErr v w = 0) : decE (encN v w) (encR v w) (encM v w) w = 0 ∧ decI (encN v w) (encR v w) (encM v w) w = v := by
  rcases patErr_cases v w with ⟨_, hw, ⟨p1, p2, p3, p4, p5⟩, hval⟩ | ⟨he, _⟩
  · have hs := szI_enc _ _ p1 p3 p4
    have em : encM v w = topI ((patP v w).1 : Int) + ((patP v w).2.1 : Int) - 1 := if_pos h
    have en : encN v w = if (patP v w).1 = 64 then 1 else 0 := rfl
    have er : encR v w = ((patP v w).2.2 : Int) := rfl
    have hb := enc_bounds v w
    have hsz : szI (encN v w) (encM v w) = ((patP v w).1 : Int) := by rw [en, em]; exact hs
    have ho : encM v w - topI ((patP v w).1 : Int) + 1 = ((patP v w).2.1 : Int) := by rw [em]; omega
    have hwn : ((w.toNat : Nat) : Int) = w := by omega
    have hs2 : 2 ≤ (patP v w).1 := by unfold Sz at p1; omega
    have hok : okD (encN v w) (encR v w) (encM v w) w = true := by
      unfold okD
      rw [hsz, ho, er]
      simp only [Bool.and_eq_true, decide_eq_true_eq, mayB_iff]
      omega
    have hE : decE (encN v w) (encR v w) (encM v w) w = 0 := by
      unfold decE
      rw [hok, show widB w = true by simpa [widB] using hw]
      rfl
    refine ⟨hE, ?_⟩
    unfold decI
    rw [if_pos hE, hsz, ho, er]
    simp only [Int.toNat_natCast]
    rw [hval]
    exact Int.toNat_of_nonneg hv.1
  · omega
theorem enc_dec (n r m w : Int) (h : decE n r m w = 0) : U64 (decI n r m w) ∧ patErr (decI n r m w) w = 0 ∧ encN (decI n r m w) w = n ∧ encR (decI n r m w) w = r ∧ encM (decI n r m w) w = m := by
  have hwid : widB w = true := by
    unfold decE at h
    by_cases hw : widB w = true
    · exact hw
    · rw [if_neg hw] at h; cases h
  have hok : okD n r m w = true := by
    unfold decE at h
    rw [if_pos hwid] at h
    by_cases ho : okD n r m w = true
    · exact ho
    · rw [if_neg ho] at h; cases h
  have hw : w = 32 ∨ w = 64 := by simpa [widB] using hwid
  have hok2 := hok
  unfold okD at hok2
  simp only [Bool.and_eq_true, decide_eq_true_eq] at hok2
  obtain ⟨⟨⟨⟨n1, n2⟩, m1⟩, m2⟩, hmay⟩ := hok2
  have hsz := szI_sz n m w _ r m1 hmay
  have hP := pat_of hsz hmay
  have hw2 : w.toNat = 32 ∨ w.toNat = 64 := by omega
  obtain ⟨q1, q2, q3, q4, q5, q6⟩ := (mayB_iff _ _ _ _).1 hmay
  have hd : decI n r m w = ((valN (szI n m).toNat (m - topI (szI n m) + 1).toNat r.toNat w.toNat : Nat) : Int) := if_pos h
  have hlt := lt64 (valN_lt (szI n m).toNat (m - topI (szI n m) + 1).toNat r.toNat w.toNat) (by omega)
  have hU : U64 (decI n r m w) := by rw [hd]; exact ⟨by omega, by omega⟩
  have hip : IsPat (decI n r m w).toNat w.toNat (szI n m).toNat (m - topI (szI n m) + 1).toNat r.toNat := ⟨hP, by rw [hd, Int.toNat_natCast]⟩
  have hp : patP (decI n r m w) w = ((szI n m).toNat, (m - topI (szI n m) + 1).toNat, r.toNat) := (if_pos hwid).trans (patV_is hw2 hip)
  have he : patErr (decI n r m w) w = 0 := (if_pos hwid).trans (if_pos ⟨((szI n m).toNat, (m - topI (szI n m) + 1).toNat, r.toNat), hip⟩)
  refine ⟨hU, he, ?_, ?_, ?_⟩
  · unfold encN
    rw [hp]
    dsimp only
    have hn : n = 0 ∨ n = 1 := by omega
    rcases hn with rfl | rfl
    · rw [if_neg]
      intro e
      have : szI 0 m ≤ 32 := by unfold szI; (repeat' split) <;> omega
      omega
    · rw [if_pos]; rfl
  · unfold encR
    rw [hp]
    dsimp only
    omega
  · unfold encM
    rw [if_pos he, hp]
    dsimp only
    rw [Int.toNat_of_nonneg (by omega), Int.toNat_of_nonneg (by omega)]
    omega
theorem field_back (f w : Int) (h : fldE f w = 0) : U64 (fldI f w) ∧ patErr (fldI f w) w = 0 ∧ encF (fldI f w) w = f := by
  have hwid : widB w = true := by
    unfold fldE at h
    by_cases hw : widB w = true
    · exact hw
    · rw [if_neg hw] at h; cases h
  have hf : 0 ≤ f ∧ f < 8192 := by
    unfold fldE at h
    rw [if_pos hwid] at h
    by_cases hf : 0 ≤ f ∧ f < 8192
    · exact hf
    · rw [if_neg hf] at h; cases h
  have hE : decE (f / 4096) (f / 64 % 64) (f % 64) w = 0 := by
    unfold fldE at h
    rw [if_pos hwid, if_pos hf] at h
    exact h
  have hI : fldI f w = decI (f / 4096) (f / 64 % 64) (f % 64) w := by
    unfold fldI
    rw [if_pos hwid, if_pos hf]
  obtain ⟨h1, h2, h3, h4, h5⟩ := enc_dec _ _ _ _ hE
  rw [hI]
  refine ⟨h1, h2, ?_⟩
  unfold encF
  rw [h3, h4, h5]
  omega
end Go.Proofs.YtopfaapcekiojaaGreatDoor
