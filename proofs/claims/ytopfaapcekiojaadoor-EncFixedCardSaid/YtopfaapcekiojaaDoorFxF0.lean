/- EncFixed: runs 0. -/
import Derived.Test.YtopfaapcekiojaaDoorFxF
namespace Go.Proofs.YtopfaapcekiojaaDoor.lawEncFixed
open Go Go.RowKit Go.Proofs.YtopfaapcekiojaaDoor Sym

theorem run_1 : runB 1 = true := by kernel_rfl
theorem run_2 : runB 2 = true := by kernel_rfl
theorem run_3 : runB 3 = true := by kernel_rfl
theorem run_4 : runB 4 = true := by kernel_rfl
theorem run_5 : runB 5 = true := by kernel_rfl
theorem run_6 : runB 6 = true := by kernel_rfl
theorem run_7 : runB 7 = true := by kernel_rfl
theorem run_8 : runB 8 = true := by kernel_rfl
theorem run_9 : runB 9 = true := by kernel_rfl
theorem run_10 : runB 10 = true := by kernel_rfl
theorem run_11 : runB 11 = true := by kernel_rfl
theorem bad_run : badB = true := by kernel_rfl
end Go.Proofs.YtopfaapcekiojaaDoor.lawEncFixed
