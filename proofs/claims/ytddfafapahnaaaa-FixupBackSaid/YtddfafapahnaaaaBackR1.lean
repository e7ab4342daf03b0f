/- FixupBack: runs 1. -/
import Derived.Test.YtddfafapahnaaaaFilA
namespace Go.Proofs.Ytddfafapahnaaaa.lawFixupBack
open Go Go.RowKit Go.Proofs.Ytddfafapahnaaaa Sym Fil

theorem run_6_0 : filB 8 (.lit 6) (.lit 0) 0 = true := by kernel_rfl
theorem run_7_0 : filB 8 (.lit 7) (.lit 0) 0 = true := by kernel_rfl
theorem run_8_0 : filB 8 (.lit 8) (.lit 0) 0 = true := by kernel_rfl
theorem run_9_0 : filB 8 (.lit 9) (.lit 0) 0 = true := by kernel_rfl
theorem run_10_0 : filB 8 (.lit 10) (.lit 0) 0 = true := by kernel_rfl
theorem run_11_0 : filB 8 (.lit 11) (.lit 0) 0 = true := by kernel_rfl
theorem run_12_0 : filB 8 (.lit 12) (.lit 0) 0 = true := by kernel_rfl
theorem run_9_1 : filB 8 (.lit 9) (.lit 1) 0 = true := by kernel_rfl
theorem run_9_2 : filB 8 (.lit 9) (.lit 2) 0 = true := by kernel_rfl
theorem run_9_3 : filB 8 (.lit 9) (.lit 3) 0 = true := by kernel_rfl
theorem run_bad : filB 8 (.var 0) (.var 1) 1 = true := by kernel_rfl
end Go.Proofs.Ytddfafapahnaaaa.lawFixupBack
