/- InstChecks class by class, part 1. -/
import Derived.Test.YtopfaapcekiojaaInsG
namespace Go.Proofs.Ytopfaapcekiojaa.lawInstChecks
open Go Go.RowKit Go.Proofs.Ytopfaapcekiojaa Sym

def ckSums : Sums := [begunS, (13, patS [instS (.var 7)] (numS 10)), (19, patS [instS (.var 7)] (numS 10))]
def bdF (lo hi : Int) : List (Nat × Int × Int) := (9, 0, 255) :: (8, lo, hi) :: bdN 8
def mostS : SV := .p (.c (.int .u8 (.var 9)))
noncomputable abbrev runK : Nat → Bool := fun k => allTrue (runF (lawCx (bdF k k) ckSums) 300 4 [instS (.var 7), .p (.c (.int .i64 (.lit k))), mostS] [] 0)
theorem run_0 : allK runK 3 0 = true := by kernel_rfl
theorem run_1 : allK runK 3 3 = true := by kernel_rfl
theorem run_2 : allK runK 3 6 = true := by kernel_rfl
end Go.Proofs.Ytopfaapcekiojaa.lawInstChecks

/- InstChecks class by class, part 2. -/
namespace Go.Proofs.Ytopfaapcekiojaa.lawInstChecks
open Go Go.RowKit Go.Proofs.Ytopfaapcekiojaa Sym

theorem run_3 : allK runK 3 9 = true := by kernel_rfl
theorem run_4 : allK runK 3 12 = true := by kernel_rfl
theorem run_5 : allK runK 3 15 = true := by kernel_rfl
end Go.Proofs.Ytopfaapcekiojaa.lawInstChecks
