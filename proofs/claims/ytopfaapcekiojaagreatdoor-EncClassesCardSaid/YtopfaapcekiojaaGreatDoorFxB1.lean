/- What is fixed of each class: runs of Base (r). -/
import Derived.Test.YtopfaapcekiojaaGreatDoorFxA
namespace Go.Proofs.YtopfaapcekiojaaGreatDoor.Sym
open Go Go.RowKit Go.Proofs.YtopfaapcekiojaaGreatDoor
set_option maxRecDepth 100000 in
theorem br_1 : bB 6 1 (fixB 1) (fixM 1) = true := by kernel_rfl
set_option maxRecDepth 100000 in
theorem br_2 : bB 6 2 (fixB 2) (fixM 2) = true := by kernel_rfl
set_option maxRecDepth 100000 in
theorem br_3 : bB 6 3 (fixB 3) (fixM 3) = true := by kernel_rfl
set_option maxRecDepth 100000 in
theorem br_4 : bB 6 4 (fixB 4) (fixM 4) = true := by kernel_rfl
set_option maxRecDepth 100000 in
theorem br_5 : bB 6 5 (fixB 5) (fixM 5) = true := by kernel_rfl
set_option maxRecDepth 100000 in
theorem br_6 : bB 6 6 (fixB 6) (fixM 6) = true := by kernel_rfl
set_option maxRecDepth 100000 in
theorem br_7 : bB 6 7 (fixB 7) (fixM 7) = true := by kernel_rfl
set_option maxRecDepth 100000 in
theorem br_8 : bB 6 8 (fixB 8) (fixM 8) = true := by kernel_rfl
set_option maxRecDepth 100000 in
theorem br_9 : bB 6 9 (fixB 9) (fixM 9) = true := by kernel_rfl
set_option maxRecDepth 100000 in
theorem br_10 : bB 6 10 (fixB 10) (fixM 10) = true := by kernel_rfl
set_option maxRecDepth 100000 in
theorem br_11 : bB 6 11 (fixB 11) (fixM 11) = true := by kernel_rfl
set_option maxRecDepth 100000 in
theorem br_12 : bB 6 12 (fixB 12) (fixM 12) = true := by kernel_rfl
set_option maxRecDepth 100000 in
theorem br_13 : bB 6 13 (fixB 13) (fixM 13) = true := by kernel_rfl
set_option maxRecDepth 100000 in
theorem br_14 : bB 6 14 (fixB 14) (fixM 14) = true := by kernel_rfl
set_option maxRecDepth 100000 in
theorem br_15 : bB 6 15 (fixB 15) (fixM 15) = true := by kernel_rfl
set_option maxRecDepth 100000 in
theorem br_16 : bB 6 16 (fixB 16) (fixM 16) = true := by kernel_rfl
set_option maxRecDepth 100000 in
theorem br_17 : bB 6 17 (fixB 17) (fixM 17) = true := by kernel_rfl
set_option maxRecDepth 100000 in
theorem br_18 : bB 6 18 (fixB 18) (fixM 18) = true := by kernel_rfl
set_option maxRecDepth 100000 in
theorem br_19 : bB 6 19 (fixB 19) (fixM 19) = true := by kernel_rfl
set_option maxRecDepth 100000 in
theorem br_20 : bB 6 20 (fixB 20) (fixM 20) = true := by kernel_rfl
set_option maxRecDepth 100000 in
theorem br_21 : bB 6 21 (fixB 21) (fixM 21) = true := by kernel_rfl
set_option maxRecDepth 100000 in
theorem br_22 : bB 6 22 (fixB 22) (fixM 22) = true := by kernel_rfl
set_option maxRecDepth 100000 in
theorem br_23 : bB 6 23 (fixB 23) (fixM 23) = true := by kernel_rfl
set_option maxRecDepth 100000 in
theorem br_24 : bB 6 24 (fixB 24) (fixM 24) = true := by kernel_rfl
set_option maxRecDepth 100000 in
theorem br_25 : bB 6 25 (fixB 25) (fixM 25) = true := by kernel_rfl
set_option maxRecDepth 100000 in
theorem br_26 : bB 6 26 (fixB 26) (fixM 26) = true := by kernel_rfl
set_option maxRecDepth 100000 in
theorem br_27 : bB 6 27 (fixB 27) (fixM 27) = true := by kernel_rfl
set_option maxRecDepth 100000 in
theorem br_28 : bB 6 28 (fixB 28) (fixM 28) = true := by kernel_rfl
set_option maxRecDepth 100000 in
theorem br_29 : bB 6 29 (fixB 29) (fixM 29) = true := by kernel_rfl
set_option maxRecDepth 100000 in
theorem br_30 : bB 6 30 (fixB 30) (fixM 30) = true := by kernel_rfl
set_option maxRecDepth 100000 in
theorem br_31 : bB 6 31 (fixB 31) (fixM 31) = true := by kernel_rfl
set_option maxRecDepth 100000 in
theorem br_32 : bB 6 32 (fixB 32) (fixM 32) = true := by kernel_rfl
theorem br_all : ∀ k, 1 ≤ k → k < 33 → bB 6 k (fixB k) (fixM k) = true
  | 0, h, _ => by omega
  | 1, _, _ => br_1
  | 2, _, _ => br_2
  | 3, _, _ => br_3
  | 4, _, _ => br_4
  | 5, _, _ => br_5
  | 6, _, _ => br_6
  | 7, _, _ => br_7
  | 8, _, _ => br_8
  | 9, _, _ => br_9
  | 10, _, _ => br_10
  | 11, _, _ => br_11
  | 12, _, _ => br_12
  | 13, _, _ => br_13
  | 14, _, _ => br_14
  | 15, _, _ => br_15
  | 16, _, _ => br_16
  | 17, _, _ => br_17
  | 18, _, _ => br_18
  | 19, _, _ => br_19
  | 20, _, _ => br_20
  | 21, _, _ => br_21
  | 22, _, _ => br_22
  | 23, _, _ => br_23
  | 24, _, _ => br_24
  | 25, _, _ => br_25
  | 26, _, _ => br_26
  | 27, _, _ => br_27
  | 28, _, _ => br_28
  | 29, _, _ => br_29
  | 30, _, _ => br_30
  | 31, _, _ => br_31
  | 32, _, _ => br_32
  | k + 33, _, h => by omega
end Go.Proofs.YtopfaapcekiojaaGreatDoor.Sym
