/- EncClasses: runs 0. -/
import Derived.Test.YtopfaapcekiojaaGreatDoorFxF
namespace Go.Proofs.YtopfaapcekiojaaGreatDoor.lawEncClasses
open Go Go.RowKit Go.Proofs.YtopfaapcekiojaaGreatDoor Sym

theorem run_1 : runB 1 = true := by kernel_rfl
theorem run_2 : runB 2 = true := by kernel_rfl
theorem run_3 : runB 3 = true := by kernel_rfl
theorem run_4 : runB 4 = true := by kernel_rfl
theorem run_5 : runB 5 = true := by kernel_rfl
theorem run_6 : runB 6 = true := by kernel_rfl
theorem run_7 : runB 7 = true := by kernel_rfl
theorem run_8 : runB 8 = true := by kernel_rfl
theorem run_0 : noB 0 0 (.lit 0) = true := by kernel_rfl
theorem run_lo : noB (-9223372036854775808) (-1) (.var 7) = true := by kernel_rfl
theorem run_hi : noB 33 9223372036854775807 (.var 7) = true := by kernel_rfl
end Go.Proofs.YtopfaapcekiojaaGreatDoor.lawEncClasses
