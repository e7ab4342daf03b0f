/- DecUnlike: runs 2. -/
import Derived.Test.YtopfaapcekiojaaDecU
namespace Go.Proofs.Ytopfaapcekiojaa.lawDecUnlike
open Go Go.RowKit Go.Proofs.Ytopfaapcekiojaa Sym
set_option linter.unusedVariables false

theorem run_4 : allK runB 32 128 = true := by kernel_rfl
theorem run_5 : allK runB 32 160 = true := by kernel_rfl
end Go.Proofs.Ytopfaapcekiojaa.lawDecUnlike
