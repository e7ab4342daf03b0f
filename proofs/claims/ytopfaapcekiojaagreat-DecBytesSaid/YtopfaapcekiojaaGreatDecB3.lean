/- Decode of the words that Encode gives: runs 2. -/
import Derived.Test.YtopfaapcekiojaaGreatDecA
namespace Go.Proofs.YtopfaapcekiojaaGreat.Sym
open Go Go.RowKit Go.Proofs.YtopfaapcekiojaaGreat
set_option maxRecDepth 100000 in
theorem d2_run_23 : d2K 23 = true := by kernel_rfl
set_option maxRecDepth 100000 in
theorem d2_run_24 : d2K 24 = true := by kernel_rfl
set_option maxRecDepth 100000 in
theorem d2_run_25 : d2K 25 = true := by kernel_rfl
set_option maxRecDepth 100000 in
theorem d2_run_26 : d2K 26 = true := by kernel_rfl
set_option maxRecDepth 100000 in
theorem d2_run_27 : d2K 27 = true := by kernel_rfl
set_option maxRecDepth 100000 in
theorem d2_run_28 : d2K 28 = true := by kernel_rfl
set_option maxRecDepth 100000 in
theorem d2_run_29 : d2K 29 = true := by kernel_rfl
set_option maxRecDepth 100000 in
theorem d2_run_30 : d2K 30 = true := by kernel_rfl
set_option maxRecDepth 100000 in
theorem d2_run_31 : d2K 31 = true := by kernel_rfl
set_option maxRecDepth 100000 in
theorem d2_run_32 : d2K 32 = true := by kernel_rfl
end Go.Proofs.YtopfaapcekiojaaGreat.Sym
