/- DecUnlike: runs 0. -/
import Derived.Test.YtopfaapcekiojaaDecU
namespace Go.Proofs.Ytopfaapcekiojaa.lawDecUnlike
open Go Go.RowKit Go.Proofs.Ytopfaapcekiojaa Sym
set_option linter.unusedVariables false

theorem run_0 : allK runB 32 0 = true := by kernel_rfl
theorem run_1 : allK runB 32 32 = true := by kernel_rfl
end Go.Proofs.Ytopfaapcekiojaa.lawDecUnlike
