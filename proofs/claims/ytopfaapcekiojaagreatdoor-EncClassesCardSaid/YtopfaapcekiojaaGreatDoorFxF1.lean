/- EncClasses: runs 1. -/
import Derived.Test.YtopfaapcekiojaaGreatDoorFxF
namespace Go.Proofs.YtopfaapcekiojaaGreatDoor.lawEncClasses
open Go Go.RowKit Go.Proofs.YtopfaapcekiojaaGreatDoor Sym

theorem run_9 : runB 9 = true := by kernel_rfl
theorem run_10 : runB 10 = true := by kernel_rfl
theorem run_11 : runB 11 = true := by kernel_rfl
theorem run_12 : runB 12 = true := by kernel_rfl
theorem run_13 : runB 13 = true := by kernel_rfl
theorem run_14 : runB 14 = true := by kernel_rfl
theorem run_15 : runB 15 = true := by kernel_rfl
theorem run_16 : runB 16 = true := by kernel_rfl
end Go.Proofs.YtopfaapcekiojaaGreatDoor.lawEncClasses
