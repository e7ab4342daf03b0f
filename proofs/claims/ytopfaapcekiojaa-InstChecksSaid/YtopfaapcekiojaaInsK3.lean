/- InstChecks class by class, part 3. -/
import Derived.Test.YtopfaapcekiojaaInsK1
namespace Go.Proofs.Ytopfaapcekiojaa.lawInstChecks
open Go Go.RowKit Go.Proofs.Ytopfaapcekiojaa Sym

theorem three {t : Nat → Bool} {k : Nat} (h0 : t k = true) (h1 : t (k + 1) = true) (h2 : t (k + 2) = true) : allK t 3 k = true := by
  unfold allK
  rw [h0]
  show allK t 2 (k + 1) = true
  unfold allK
  rw [h1]
  show allK t 1 (k + 2) = true
  unfold allK
  rw [h2]
  rfl
theorem one_18 : runK 18 = true := by kernel_rfl
theorem one_19 : runK 19 = true := by kernel_rfl
theorem one_20 : runK 20 = true := by kernel_rfl
theorem one_21 : runK 21 = true := by kernel_rfl
theorem one_22 : runK 22 = true := by kernel_rfl
theorem one_23 : runK 23 = true := by kernel_rfl
theorem run_6 : allK runK 3 18 = true := three one_18 one_19 one_20
theorem run_7 : allK runK 3 21 = true := three one_21 one_22 one_23
end Go.Proofs.Ytopfaapcekiojaa.lawInstChecks
