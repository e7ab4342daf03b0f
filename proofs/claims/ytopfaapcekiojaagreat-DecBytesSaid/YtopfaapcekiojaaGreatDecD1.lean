/- The reference's Decode: its runs. -/
import Derived.Test.YtopfaapcekiojaaGreatDecD0
namespace Go.Proofs.YtopfaapcekiojaaGreat.Two
open Go Go.RowKit Go.Proofs.YtopfaapcekiojaaGreat Sym
set_option linter.unusedVariables false

theorem two_1 : twoB 1 = true := by kernel_rfl
theorem two_2 : twoB 2 = true := by kernel_rfl
theorem two_3 : twoB 3 = true := by kernel_rfl
theorem two_4 : twoB 4 = true := by kernel_rfl
theorem two_5 : twoB 5 = true := by kernel_rfl
theorem two_6 : twoB 6 = true := by kernel_rfl
theorem two_7 : twoB 7 = true := by kernel_rfl
theorem two_8 : twoB 8 = true := by kernel_rfl
theorem two_9 : twoB 9 = true := by kernel_rfl
theorem two_10 : twoB 10 = true := by kernel_rfl
theorem two_11 : twoB 11 = true := by kernel_rfl
theorem two_12 : twoB 12 = true := by kernel_rfl
theorem two_13 : twoB 13 = true := by kernel_rfl
theorem two_14 : twoB 14 = true := by kernel_rfl
theorem two_15 : twoB 15 = true := by kernel_rfl
theorem two_16 : twoB 16 = true := by kernel_rfl
theorem two_17 : twoB 17 = true := by kernel_rfl
theorem two_18 : twoB 18 = true := by kernel_rfl
theorem two_19 : twoB 19 = true := by kernel_rfl
theorem two_20 : twoB 20 = true := by kernel_rfl
theorem two_21 : twoB 21 = true := by kernel_rfl
theorem two_22 : twoB 22 = true := by kernel_rfl
theorem two_23 : twoB 23 = true := by kernel_rfl
theorem two_24 : twoB 24 = true := by kernel_rfl
theorem two_25 : twoB 25 = true := by kernel_rfl
theorem two_26 : twoB 26 = true := by kernel_rfl
theorem two_27 : twoB 27 = true := by kernel_rfl
theorem two_28 : twoB 28 = true := by kernel_rfl
theorem two_29 : twoB 29 = true := by kernel_rfl
theorem two_30 : twoB 30 = true := by kernel_rfl
theorem two_31 : twoB 31 = true := by kernel_rfl
theorem two_32 : twoB 32 = true := by kernel_rfl
theorem two_no : runR noD (axs 32 1) = true := by kernel_rfl
theorem two_all : ∀ k, 1 ≤ k → k < 33 → twoB k = true
  | 0, h, _ => by omega
  | 1, _, _ => two_1
  | 2, _, _ => two_2
  | 3, _, _ => two_3
  | 4, _, _ => two_4
  | 5, _, _ => two_5
  | 6, _, _ => two_6
  | 7, _, _ => two_7
  | 8, _, _ => two_8
  | 9, _, _ => two_9
  | 10, _, _ => two_10
  | 11, _, _ => two_11
  | 12, _, _ => two_12
  | 13, _, _ => two_13
  | 14, _, _ => two_14
  | 15, _, _ => two_15
  | 16, _, _ => two_16
  | 17, _, _ => two_17
  | 18, _, _ => two_18
  | 19, _, _ => two_19
  | 20, _, _ => two_20
  | 21, _, _ => two_21
  | 22, _, _ => two_22
  | 23, _, _ => two_23
  | 24, _, _ => two_24
  | 25, _, _ => two_25
  | 26, _, _ => two_26
  | 27, _, _ => two_27
  | 28, _, _ => two_28
  | 29, _, _ => two_29
  | 30, _, _ => two_30
  | 31, _, _ => two_31
  | 32, _, _ => two_32
  | k + 33, _, h => by omega
end Go.Proofs.YtopfaapcekiojaaGreat.Two
