/- InstChecks class by class, part 4. -/
import Derived.Test.YtopfaapcekiojaaInsK3
namespace Go.Proofs.Ytopfaapcekiojaa.lawInstChecks
open Go Go.RowKit Go.Proofs.Ytopfaapcekiojaa Sym

theorem one_24 : runK 24 = true := by kernel_rfl
theorem one_25 : runK 25 = true := by kernel_rfl
theorem one_26 : runK 26 = true := by kernel_rfl
theorem one_27 : runK 27 = true := by kernel_rfl
theorem one_28 : runK 28 = true := by kernel_rfl
theorem one_29 : runK 29 = true := by kernel_rfl
theorem one_30 : runK 30 = true := by kernel_rfl
theorem one_31 : runK 31 = true := by kernel_rfl
theorem one_32 : runK 32 = true := by kernel_rfl
theorem run_8 : allK runK 3 24 = true := three one_24 one_25 one_26
theorem run_9 : allK runK 3 27 = true := three one_27 one_28 one_29
theorem run_10 : allK runK 3 30 = true := three one_30 one_31 one_32
end Go.Proofs.Ytopfaapcekiojaa.lawInstChecks
