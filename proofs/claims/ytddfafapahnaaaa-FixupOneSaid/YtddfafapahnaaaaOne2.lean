/- FixupOne: runs 2. -/
import Derived.Test.YtddfafapahnaaaaOneA
namespace Go.Proofs.Ytddfafapahnaaaa.lawFixupOne
open Go Go.RowKit Go.Proofs.Ytddfafapahnaaaa Sym

theorem run_9_0 : oneB (.lit 9) (.lit 0) 0 .tt = true := by kernel_rfl
theorem run_10_0 : oneB (.lit 10) (.lit 0) 0 .tt = true := by kernel_rfl
theorem run_11_0 : oneB (.lit 11) (.lit 0) 0 .tt = true := by kernel_rfl
theorem run_12_0 : oneB (.lit 12) (.lit 0) 0 .tt = true := by kernel_rfl
theorem run_9_1 : oneB (.lit 9) (.lit 1) 0 .tt = true := by kernel_rfl
theorem run_9_2 : oneB (.lit 9) (.lit 2) 0 .tt = true := by kernel_rfl
theorem run_9_3 : oneB (.lit 9) (.lit 3) 0 .tt = true := by kernel_rfl
theorem run_bad : oneB (.var 0) (.var 1) 1 .tt = true := by kernel_rfl
theorem run_bad2 : oneB (.var 0) (.var 1) 1 .ff = true := by kernel_rfl
theorem run_none : oneB (.var 0) (.var 1) 0 .ff = true := by kernel_rfl
end Go.Proofs.Ytddfafapahnaaaa.lawFixupOne
