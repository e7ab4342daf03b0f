/- EncClasses: runs 2. -/
import Derived.Test.YtopfaapcekiojaaGreatDoorFxF
namespace Go.Proofs.YtopfaapcekiojaaGreatDoor.lawEncClasses
open Go Go.RowKit Go.Proofs.YtopfaapcekiojaaGreatDoor Sym

theorem run_17 : runB 17 = true := by kernel_rfl
theorem run_18 : runB 18 = true := by kernel_rfl
theorem run_19 : runB 19 = true := by kernel_rfl
theorem run_20 : runB 20 = true := by kernel_rfl
theorem run_21 : runB 21 = true := by kernel_rfl
theorem run_22 : runB 22 = true := by kernel_rfl
theorem run_23 : runB 23 = true := by kernel_rfl
theorem run_24 : runB 24 = true := by kernel_rfl
end Go.Proofs.YtopfaapcekiojaaGreatDoor.lawEncClasses
