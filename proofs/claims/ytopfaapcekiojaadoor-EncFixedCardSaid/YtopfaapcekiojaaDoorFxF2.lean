/- EncFixed: runs 2. -/
import Derived.Test.YtopfaapcekiojaaDoorFxF
namespace Go.Proofs.YtopfaapcekiojaaDoor.lawEncFixed
open Go Go.RowKit Go.Proofs.YtopfaapcekiojaaDoor Sym

theorem run_23 : runB 23 = true := by kernel_rfl
theorem run_24 : runB 24 = true := by kernel_rfl
theorem run_25 : runB 25 = true := by kernel_rfl
theorem run_26 : runB 26 = true := by kernel_rfl
theorem run_27 : runB 27 = true := by kernel_rfl
theorem run_28 : runB 28 = true := by kernel_rfl
theorem run_29 : runB 29 = true := by kernel_rfl
theorem run_30 : runB 30 = true := by kernel_rfl
theorem run_31 : runB 31 = true := by kernel_rfl
theorem run_32 : runB 32 = true := by kernel_rfl
end Go.Proofs.YtopfaapcekiojaaDoor.lawEncFixed
