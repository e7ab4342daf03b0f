/- FixupOne: runs 0. -/
import Derived.Test.YtddfafapahnaaaaOneA
namespace Go.Proofs.Ytddfafapahnaaaa.lawFixupOne
open Go Go.RowKit Go.Proofs.Ytddfafapahnaaaa Sym

theorem run_1_0 : oneB (.lit 1) (.lit 0) 0 .tt = true := by kernel_rfl
theorem run_2_0 : oneB (.lit 2) (.lit 0) 0 .tt = true := by kernel_rfl
theorem run_3_0 : oneB (.lit 3) (.lit 0) 0 .tt = true := by kernel_rfl
theorem run_4_0 : oneB (.lit 4) (.lit 0) 0 .tt = true := by kernel_rfl
end Go.Proofs.Ytddfafapahnaaaa.lawFixupOne
