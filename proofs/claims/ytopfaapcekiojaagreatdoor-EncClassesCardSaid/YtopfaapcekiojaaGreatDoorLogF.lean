/- Logical immediates, the document's answer: Decode and Value. -/
import Derived.Test.YtopfaapcekiojaaGreatDoorLogE
namespace Go.Proofs.YtopfaapcekiojaaGreatDoor
open Go.RowKit Go.Sort
attribute [local go_sem] cell_gr frozen_gr
set_option linter.unusedVariables false

theorem bad_any (w : Int) (W : World) : Calls Tryz.prog 106 #[.int .i64 w] W (Ret (.bool (!widB w)) W) := by
  by_cases h1 : w = 32
  · subst h1
    go_enter Tryz.func106, Tryz.ntmps106
    go_wp2
    go_ret
    exact ⟨rfl, Below.refl _ _⟩
  · have e : widB w = decide (w = 64) := by unfold widB; rw [decide_eq_false h1]; rfl
    rw [e]
    have e2 : (w == 32) = false := beq_false_of_ne h1
    go_enter Tryz.func106, Tryz.ntmps106
    go_wp2
    go_ret
    exact ⟨by simp [e2, bne]; try rfl, Below.refl _ _⟩
/-- a size, or the one behind the last -/
def Sz1 (z : Int) : Prop := z = 2 ∨ z = 4 ∨ z = 8 ∨ z = 16 ∨ z = 32 ∨ z = 64
theorem top_any (z : Int) (hz : Sz1 z) (W : World) : Calls Tryz.prog 91 #[.int .i64 z] W (Ret (.int .i64 (topI z)) W) := by
  rcases hz with rfl | rfl | rfl | rfl | rfl | rfl
  all_goals
    rw [show topI _ = _ from rfl]
    go_enter Tryz.func91, Tryz.ntmps91
    go_wp2
    go_ret
    exact ⟨rfl, Below.refl _ _⟩
/-- the document's condition at a size -/
def refB (n r m z : Int) : Bool := okD n r m 64 && decide (szI n m = z)
theorem refB_iff (n r m z : Int) (hz : Sz1 z) (hm : I64 m) : refB n r m z = true ↔ (((n = 1 ∧ z = 64) ∨ (n ≠ 1 ∧ z ≠ 64)) ∧ (n = 0 ∨ n = 1) ∧ 1 ≤ wrap64 (wrap64 (m - topI z) + 1) ∧ wrap64 (wrap64 (m - topI z) + 1) < z ∧ 0 ≤ r ∧ r < z ∧ 0 ≤ m ∧ m < 64) := by
  unfold I64 at hm
  have e : refB n r m z = true ↔ (0 ≤ n ∧ n ≤ 1 ∧ 0 ≤ m ∧ m ≤ 63 ∧ szI n m = z ∧ 1 ≤ m - topI z + 1 ∧ m - topI z + 1 < z ∧ 0 ≤ r ∧ r < z) := by
    unfold refB okD
    simp only [Bool.and_eq_true, decide_eq_true_eq, mayB_iff]
    constructor
    · rintro ⟨⟨⟨⟨⟨h1, h2⟩, h3⟩, h4⟩, h5, h6, h7, h8, h9, h10⟩, rfl⟩
      exact ⟨h1, h2, h3, h4, rfl, h7, h8, h9, h10⟩
    · rintro ⟨h1, h2, h3, h4, rfl, h7, h8, h9, h10⟩
      refine ⟨⟨⟨⟨⟨h1, h2⟩, h3⟩, h4⟩, ?_, ?_, h7, h8, h9, h10⟩, rfl⟩ <;> (unfold Sz1 at hz; omega)
  rw [e]
  have ht : (32 ≤ z → topI z = 0) ∧ (z < 32 → topI z = 64 - 2 * z) := by unfold topI; split <;> omega
  have hs : (n = 1 → szI n m = 64) ∧ (n ≠ 1 → m < 32 → szI n m = 32) ∧ (n ≠ 1 → 32 ≤ m → m < 48 → szI n m = 16) ∧ (n ≠ 1 → 48 ≤ m → m < 56 → szI n m = 8) ∧ (n ≠ 1 → 56 ≤ m → m < 60 → szI n m = 4) ∧ (n ≠ 1 → 60 ≤ m → m < 62 → szI n m = 2) ∧ (n ≠ 1 → 62 ≤ m → szI n m = 0) := by
    unfold szI; (repeat' split) <;> omega
  generalize szI n m = s at *
  generalize topI z = q at *
  unfold wrap64
  rcases hz with rfl | rfl | rfl | rfl | rfl | rfl
  · obtain rfl : q = 60 := by omega
    omega
  · obtain rfl : q = 56 := by omega
    omega
  · obtain rfl : q = 48 := by omega
    omega
  · obtain rfl : q = 32 := by omega
    omega
  · obtain rfl : q = 0 := by omega
    omega
  · obtain rfl : q = 0 := by omega
    omega
theorem refB_val (n r m z w : Int) (hz : Sz1 z) (hm : I64 m) (hw : w = 32 ∨ w = 64) (hzw : z ≤ w) (h : refB n r m z = true) :
    decE n r m w = 0 ∧ wrap64 (wrap64 (m - topI z) + 1) = m - topI z + 1 ∧ Hid (∀ W, Calls Tryz.prog 107 #[.int .i64 z, .int .i64 (wrap64 (wrap64 (m - topI z) + 1)), .int .i64 r, .int .i64 w] W (Ret (.int .u64 (decI n r m w)) W)) := by
  have hq := (refB_iff n r m z hz hm).1 h
  unfold refB at h
  have e : szI n m = z := of_decide_eq_true (Bool.and_eq_true _ _ ▸ h).2
  have hok : okD n r m 64 = true := (Bool.and_eq_true _ _ ▸ h).1
  have ho : wrap64 (wrap64 (m - topI z) + 1) = m - topI z + 1 := by
    have : topI z = if 32 ≤ z then 0 else 64 - 2 * z := rfl
    unfold wrap64
    unfold Sz1 at hz
    split at this <;> omega
  rw [ho] at hq
  have hmay : mayB (szI n m) (m - topI (szI n m) + 1) r w = true := by
    rw [e, mayB_iff]; unfold Sz1 at hz; omega
  have hok' : okD n r m w = true := by
    unfold okD; rw [hmay]; simp; omega
  have hE : decE n r m w = 0 := by
    unfold decE; rw [hok', show widB w = true by simpa [widB] using hw]; rfl
  refine ⟨hE, ho, Lib.hid fun W => ?_⟩
  have hv := rvalue_any _ _ _ _ (pat_of (szI_sz n m w _ r (by omega) hmay) hmay) (by omega : w.toNat = 32 ∨ w.toNat = 64) W
  have e3 : decI n r m w = _ := if_pos hE
  unfold Sz1 at hz
  rw [int_of (by omega), int_of (by rw [e]; omega), int_of (by omega), int_of (by omega), ← e3, e] at hv
  rw [ho]
  exact hv
end Go.Proofs.YtopfaapcekiojaaGreatDoor
