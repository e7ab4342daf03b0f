/- What is fixed of each class: runs of Base (p). -/
import Derived.Test.YtopfaapcekiojaaGreatDoorFxA
namespace Go.Proofs.YtopfaapcekiojaaGreatDoor.Sym
open Go Go.RowKit Go.Proofs.YtopfaapcekiojaaGreatDoor
set_option maxRecDepth 100000 in
theorem bp_1 : bB 5 1 (fixB 1) (fixM 1) = true := by kernel_rfl
set_option maxRecDepth 100000 in
theorem bp_2 : bB 5 2 (fixB 2) (fixM 2) = true := by kernel_rfl
set_option maxRecDepth 100000 in
theorem bp_3 : bB 5 3 (fixB 3) (fixM 3) = true := by kernel_rfl
set_option maxRecDepth 100000 in
theorem bp_4 : bB 5 4 (fixB 4) (fixM 4) = true := by kernel_rfl
set_option maxRecDepth 100000 in
theorem bp_5 : bB 5 5 (fixB 5) (fixM 5) = true := by kernel_rfl
set_option maxRecDepth 100000 in
theorem bp_6 : bB 5 6 (fixB 6) (fixM 6) = true := by kernel_rfl
set_option maxRecDepth 100000 in
theorem bp_7 : bB 5 7 (fixB 7) (fixM 7) = true := by kernel_rfl
set_option maxRecDepth 100000 in
theorem bp_8 : bB 5 8 (fixB 8) (fixM 8) = true := by kernel_rfl
set_option maxRecDepth 100000 in
theorem bp_9 : bB 5 9 (fixB 9) (fixM 9) = true := by kernel_rfl
set_option maxRecDepth 100000 in
theorem bp_10 : bB 5 10 (fixB 10) (fixM 10) = true := by kernel_rfl
set_option maxRecDepth 100000 in
theorem bp_11 : bB 5 11 (fixB 11) (fixM 11) = true := by kernel_rfl
set_option maxRecDepth 100000 in
theorem bp_12 : bB 5 12 (fixB 12) (fixM 12) = true := by kernel_rfl
set_option maxRecDepth 100000 in
theorem bp_13 : bB 5 13 (fixB 13) (fixM 13) = true := by kernel_rfl
set_option maxRecDepth 100000 in
theorem bp_14 : bB 5 14 (fixB 14) (fixM 14) = true := by kernel_rfl
set_option maxRecDepth 100000 in
theorem bp_15 : bB 5 15 (fixB 15) (fixM 15) = true := by kernel_rfl
set_option maxRecDepth 100000 in
theorem bp_16 : bB 5 16 (fixB 16) (fixM 16) = true := by kernel_rfl
set_option maxRecDepth 100000 in
theorem bp_17 : bB 5 17 (fixB 17) (fixM 17) = true := by kernel_rfl
set_option maxRecDepth 100000 in
theorem bp_18 : bB 5 18 (fixB 18) (fixM 18) = true := by kernel_rfl
set_option maxRecDepth 100000 in
theorem bp_19 : bB 5 19 (fixB 19) (fixM 19) = true := by kernel_rfl
set_option maxRecDepth 100000 in
theorem bp_20 : bB 5 20 (fixB 20) (fixM 20) = true := by kernel_rfl
set_option maxRecDepth 100000 in
theorem bp_21 : bB 5 21 (fixB 21) (fixM 21) = true := by kernel_rfl
set_option maxRecDepth 100000 in
theorem bp_22 : bB 5 22 (fixB 22) (fixM 22) = true := by kernel_rfl
set_option maxRecDepth 100000 in
theorem bp_23 : bB 5 23 (fixB 23) (fixM 23) = true := by kernel_rfl
set_option maxRecDepth 100000 in
theorem bp_24 : bB 5 24 (fixB 24) (fixM 24) = true := by kernel_rfl
set_option maxRecDepth 100000 in
theorem bp_25 : bB 5 25 (fixB 25) (fixM 25) = true := by kernel_rfl
set_option maxRecDepth 100000 in
theorem bp_26 : bB 5 26 (fixB 26) (fixM 26) = true := by kernel_rfl
set_option maxRecDepth 100000 in
theorem bp_27 : bB 5 27 (fixB 27) (fixM 27) = true := by kernel_rfl
set_option maxRecDepth 100000 in
theorem bp_28 : bB 5 28 (fixB 28) (fixM 28) = true := by kernel_rfl
set_option maxRecDepth 100000 in
theorem bp_29 : bB 5 29 (fixB 29) (fixM 29) = true := by kernel_rfl
set_option maxRecDepth 100000 in
theorem bp_30 : bB 5 30 (fixB 30) (fixM 30) = true := by kernel_rfl
set_option maxRecDepth 100000 in
theorem bp_31 : bB 5 31 (fixB 31) (fixM 31) = true := by kernel_rfl
set_option maxRecDepth 100000 in
theorem bp_32 : bB 5 32 (fixB 32) (fixM 32) = true := by kernel_rfl
theorem bp_all : ∀ k, 1 ≤ k → k < 33 → bB 5 k (fixB k) (fixM k) = true
  | 0, h, _ => by omega
  | 1, _, _ => bp_1
  | 2, _, _ => bp_2
  | 3, _, _ => bp_3
  | 4, _, _ => bp_4
  | 5, _, _ => bp_5
  | 6, _, _ => bp_6
  | 7, _, _ => bp_7
  | 8, _, _ => bp_8
  | 9, _, _ => bp_9
  | 10, _, _ => bp_10
  | 11, _, _ => bp_11
  | 12, _, _ => bp_12
  | 13, _, _ => bp_13
  | 14, _, _ => bp_14
  | 15, _, _ => bp_15
  | 16, _, _ => bp_16
  | 17, _, _ => bp_17
  | 18, _, _ => bp_18
  | 19, _, _ => bp_19
  | 20, _, _ => bp_20
  | 21, _, _ => bp_21
  | 22, _, _ => bp_22
  | 23, _, _ => bp_23
  | 24, _, _ => bp_24
  | 25, _, _ => bp_25
  | 26, _, _ => bp_26
  | 27, _, _ => bp_27
  | 28, _, _ => bp_28
  | 29, _, _ => bp_29
  | 30, _, _ => bp_30
  | 31, _, _ => bp_31
  | 32, _, _ => bp_32
  | k + 33, _, h => by omega
end Go.Proofs.YtopfaapcekiojaaGreatDoor.Sym
