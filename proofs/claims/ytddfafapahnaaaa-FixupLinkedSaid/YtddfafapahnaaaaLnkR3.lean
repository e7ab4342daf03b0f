/- FixupLinked: runs 3. -/
import Derived.Test.YtddfafapahnaaaaLnkA
namespace Go.Proofs.Ytddfafapahnaaaa.lawFixupLinked
open Go Go.RowKit Go.Proofs.Ytddfafapahnaaaa Sym Lnk

theorem run_9_1 : lnkB (.lit 9) (.lit 1) 0 true = true := by kernel_rfl
theorem run_9_2 : lnkB (.lit 9) (.lit 2) 0 true = true := by kernel_rfl
theorem run_9_3 : lnkB (.lit 9) (.lit 3) 0 true = true := by kernel_rfl
theorem run_bad : lnkB (.var 0) (.var 1) 1 true = true := by kernel_rfl
theorem run_bad2 : lnkB (.var 0) (.var 1) 1 false = true := by kernel_rfl
theorem run_none : lnkB (.var 0) (.var 1) 0 false = true := by kernel_rfl
theorem run_neg : lnkN = true := by kernel_rfl
end Go.Proofs.Ytddfafapahnaaaa.lawFixupLinked
