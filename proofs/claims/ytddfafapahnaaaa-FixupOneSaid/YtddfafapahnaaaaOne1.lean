/- FixupOne: runs 1. -/
import Derived.Test.YtddfafapahnaaaaOneA
namespace Go.Proofs.Ytddfafapahnaaaa.lawFixupOne
open Go Go.RowKit Go.Proofs.Ytddfafapahnaaaa Sym

theorem run_5_0 : oneB (.lit 5) (.lit 0) 0 .tt = true := by kernel_rfl
theorem run_6_0 : oneB (.lit 6) (.lit 0) 0 .tt = true := by kernel_rfl
theorem run_7_0 : oneB (.lit 7) (.lit 0) 0 .tt = true := by kernel_rfl
theorem run_8_0 : oneB (.lit 8) (.lit 0) 0 .tt = true := by kernel_rfl
end Go.Proofs.Ytddfafapahnaaaa.lawFixupOne
