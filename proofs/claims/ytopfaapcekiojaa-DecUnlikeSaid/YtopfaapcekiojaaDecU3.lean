/- DecUnlike: runs 3. -/
import Derived.Test.YtopfaapcekiojaaDecU
namespace Go.Proofs.Ytopfaapcekiojaa.lawDecUnlike
open Go Go.RowKit Go.Proofs.Ytopfaapcekiojaa Sym
set_option linter.unusedVariables false

theorem run_6 : allK runB 32 192 = true := by kernel_rfl
theorem run_7 : allK runB 32 224 = true := by kernel_rfl
end Go.Proofs.Ytopfaapcekiojaa.lawDecUnlike
