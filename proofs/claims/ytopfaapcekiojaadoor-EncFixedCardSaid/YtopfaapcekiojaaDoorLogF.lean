/- Logical immediates, the document's answer: Decode and Value. -/
import Derived.Test.YtopfaapcekiojaaDoorLogE
namespace Go.Proofs.YtopfaapcekiojaaDoor
open Go.RowKit Go.Sort
attribute [local go_sem] cell_gr frozen_gr
set_option linter.unusedVariables false

/-- a size, or the one behind the last -/
def Sz1 (z : Int) : Prop := z = 2 ∨ z = 4 ∨ z = 8 ∨ z = 16 ∨ z = 32 ∨ z = 64
/-- the document's condition at a size -/
def refB (n r m z : Int) : Bool := okD n r m 64 && decide (szI n m = z)
theorem refB_iff (n r m z : Int) (hz : Sz1 z) (hm : I64 m) : refB n r m z = true ↔ (((n = 1 ∧ z = 64) ∨ (n ≠ 1 ∧ z ≠ 64)) ∧ (n = 0 ∨ n = 1) ∧ 1 ≤ wrap64 (wrap64 (m - topI z) + 1) ∧ wrap64 (wrap64 (m - topI z) + 1) < z ∧ 0 ≤ r ∧ r < z ∧ 0 ≤ m ∧ m < 64) := by
  unfold I64 at hm
  have e : refB n r m z = true ↔ (0 ≤ n ∧ n ≤ 1 ∧ 0 ≤ m ∧ m ≤ 63 ∧ szI n m = z ∧ 1 ≤ m - topI z + 1 ∧ m - topI z + 1 < z ∧ 0 ≤ r ∧ r < z) := by
    unfold refB okD
    simp only [Bool.and_eq_true, decide_eq_true_eq, mayB_iff]
    constructor
    · rintro ⟨⟨⟨⟨⟨h1, h2⟩, h3⟩, h4⟩, h5, h6, h7, h8, h9, h10⟩, rfl⟩
      exact ⟨h1, h2, h3, h4, rfl, h7, h8, h9, h10⟩
    · rintro ⟨h1, h2, h3, h4, rfl, h7, h8, h9, h10⟩
      refine ⟨⟨⟨⟨⟨h1, h2⟩, h3⟩, h4⟩, ?_, ?_, h7, h8, h9, h10⟩, rfl⟩ <;> (unfold Sz1 at hz; omega)
  rw [e]
  have ht : (32 ≤ z → topI z = 0) ∧ (z < 32 → topI z = 64 - 2 * z) := by unfold topI; split <;> omega
  have hs : (n = 1 → szI n m = 64) ∧ (n ≠ 1 → m < 32 → szI n m = 32) ∧ (n ≠ 1 → 32 ≤ m → m < 48 → szI n m = 16) ∧ (n ≠ 1 → 48 ≤ m → m < 56 → szI n m = 8) ∧ (n ≠ 1 → 56 ≤ m → m < 60 → szI n m = 4) ∧ (n ≠ 1 → 60 ≤ m → m < 62 → szI n m = 2) ∧ (n ≠ 1 → 62 ≤ m → szI n m = 0) := by
    unfold szI; (repeat' split) <;> omega
  generalize szI n m = s at *
  generalize topI z = q at *
  unfold wrap64
  rcases hz with rfl | rfl | rfl | rfl | rfl | rfl
  · obtain rfl : q = 60 := by omega
    omega
  · obtain rfl : q = 56 := by omega
    omega
  · obtain rfl : q = 48 := by omega
    omega
  · obtain rfl : q = 32 := by omega
    omega
  · obtain rfl : q = 0 := by omega
    omega
  · obtain rfl : q = 0 := by omega
    omega
end Go.Proofs.YtopfaapcekiojaaDoor
