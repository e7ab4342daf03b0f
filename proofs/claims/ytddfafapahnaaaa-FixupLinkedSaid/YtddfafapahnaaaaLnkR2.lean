/- FixupLinked: runs 2. -/
import Derived.Test.YtddfafapahnaaaaLnkA
namespace Go.Proofs.Ytddfafapahnaaaa.lawFixupLinked
open Go Go.RowKit Go.Proofs.Ytddfafapahnaaaa Sym Lnk

theorem run_9_0 : lnkB (.lit 9) (.lit 0) 0 true = true := by kernel_rfl
theorem run_10_0 : lnkB (.lit 10) (.lit 0) 0 true = true := by kernel_rfl
theorem run_11_0 : lnkB (.lit 11) (.lit 0) 0 true = true := by kernel_rfl
theorem run_12_0 : lnkB (.lit 12) (.lit 0) 0 true = true := by kernel_rfl
end Go.Proofs.Ytddfafapahnaaaa.lawFixupLinked
