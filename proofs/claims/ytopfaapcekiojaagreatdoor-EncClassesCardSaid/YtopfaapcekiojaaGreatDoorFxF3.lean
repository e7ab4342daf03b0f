/- EncClasses: runs 3. -/
import Derived.Test.YtopfaapcekiojaaGreatDoorFxF
namespace Go.Proofs.YtopfaapcekiojaaGreatDoor.lawEncClasses
open Go Go.RowKit Go.Proofs.YtopfaapcekiojaaGreatDoor Sym

theorem run_25 : runB 25 = true := by kernel_rfl
theorem run_26 : runB 26 = true := by kernel_rfl
theorem run_27 : runB 27 = true := by kernel_rfl
theorem run_28 : runB 28 = true := by kernel_rfl
theorem run_29 : runB 29 = true := by kernel_rfl
theorem run_30 : runB 30 = true := by kernel_rfl
theorem run_31 : runB 31 = true := by kernel_rfl
theorem run_32 : runB 32 = true := by kernel_rfl
end Go.Proofs.YtopfaapcekiojaaGreatDoor.lawEncClasses
