/- FixupLinked: runs 0. -/
import Derived.Test.YtddfafapahnaaaaLnkA
namespace Go.Proofs.Ytddfafapahnaaaa.lawFixupLinked
open Go Go.RowKit Go.Proofs.Ytddfafapahnaaaa Sym Lnk

theorem run_1_0 : lnkB (.lit 1) (.lit 0) 0 true = true := by kernel_rfl
theorem run_2_0 : lnkB (.lit 2) (.lit 0) 0 true = true := by kernel_rfl
theorem run_3_0 : lnkB (.lit 3) (.lit 0) 0 true = true := by kernel_rfl
theorem run_4_0 : lnkB (.lit 4) (.lit 0) 0 true = true := by kernel_rfl
end Go.Proofs.Ytddfafapahnaaaa.lawFixupLinked
