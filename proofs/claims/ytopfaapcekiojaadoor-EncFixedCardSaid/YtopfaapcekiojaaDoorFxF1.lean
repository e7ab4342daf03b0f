/- EncFixed: runs 1. -/
import Derived.Test.YtopfaapcekiojaaDoorFxF
namespace Go.Proofs.YtopfaapcekiojaaDoor.lawEncFixed
open Go Go.RowKit Go.Proofs.YtopfaapcekiojaaDoor Sym

theorem run_12 : runB 12 = true := by kernel_rfl
theorem run_13 : runB 13 = true := by kernel_rfl
theorem run_14 : runB 14 = true := by kernel_rfl
theorem run_15 : runB 15 = true := by kernel_rfl
theorem run_16 : runB 16 = true := by kernel_rfl
theorem run_17 : runB 17 = true := by kernel_rfl
theorem run_18 : runB 18 = true := by kernel_rfl
theorem run_19 : runB 19 = true := by kernel_rfl
theorem run_20 : runB 20 = true := by kernel_rfl
theorem run_21 : runB 21 = true := by kernel_rfl
theorem run_22 : runB 22 = true := by kernel_rfl
end Go.Proofs.YtopfaapcekiojaaDoor.lawEncFixed
