/- FixupLinked: runs 1. -/
import Derived.Test.YtddfafapahnaaaaLnkA
namespace Go.Proofs.Ytddfafapahnaaaa.lawFixupLinked
open Go Go.RowKit Go.Proofs.Ytddfafapahnaaaa Sym Lnk

theorem run_5_0 : lnkB (.lit 5) (.lit 0) 0 true = true := by kernel_rfl
theorem run_6_0 : lnkB (.lit 6) (.lit 0) 0 true = true := by kernel_rfl
theorem run_7_0 : lnkB (.lit 7) (.lit 0) 0 true = true := by kernel_rfl
theorem run_8_0 : lnkB (.lit 8) (.lit 0) 0 true = true := by kernel_rfl
end Go.Proofs.Ytddfafapahnaaaa.lawFixupLinked
