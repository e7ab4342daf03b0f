/- FixupBack: runs 0. -/
import Derived.Test.YtddfafapahnaaaaFilA
namespace Go.Proofs.Ytddfafapahnaaaa.lawFixupBack
open Go Go.RowKit Go.Proofs.Ytddfafapahnaaaa Sym Fil

theorem run_1_0 : filB 8 (.lit 1) (.lit 0) 0 = true := by kernel_rfl
theorem run_2_0 : filB 8 (.lit 2) (.lit 0) 0 = true := by kernel_rfl
theorem run_3_0 : filB 8 (.lit 3) (.lit 0) 0 = true := by kernel_rfl
theorem run_4_0 : filB 8 (.lit 4) (.lit 0) 0 = true := by kernel_rfl
theorem run_5_0 : filB 8 (.lit 5) (.lit 0) 0 = true := by kernel_rfl
end Go.Proofs.Ytddfafapahnaaaa.lawFixupBack
