/- DecUnlike: runs 1. -/
import Derived.Test.YtopfaapcekiojaaDecU
namespace Go.Proofs.Ytopfaapcekiojaa.lawDecUnlike
open Go Go.RowKit Go.Proofs.Ytopfaapcekiojaa Sym
set_option linter.unusedVariables false

theorem run_2 : allK runB 32 64 = true := by kernel_rfl
theorem run_3 : allK runB 32 96 = true := by kernel_rfl
end Go.Proofs.Ytopfaapcekiojaa.lawDecUnlike
