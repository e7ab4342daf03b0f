/- Decode of any word: the run. -/
import Derived.Test.YtopfaapcekiojaaGreatDecA
namespace Go.Proofs.YtopfaapcekiojaaGreat.Sym
open Go Go.RowKit Go.Proofs.YtopfaapcekiojaaGreat
set_option maxRecDepth 100000 in
theorem d1_run : d1B = true := by kernel_rfl
theorem decode_one (w : Int) (hw : U32 w) : DecAny w := d1_ok d1_run w hw
end Go.Proofs.YtopfaapcekiojaaGreat.Sym

/- Decode of the words that Encode gives: runs 0. -/
namespace Go.Proofs.YtopfaapcekiojaaGreat.Sym
open Go Go.RowKit Go.Proofs.YtopfaapcekiojaaGreat
set_option maxRecDepth 100000 in
theorem d2_run_0 : d2K 0 = true := by kernel_rfl
set_option maxRecDepth 100000 in
theorem d2_run_1 : d2K 1 = true := by kernel_rfl
set_option maxRecDepth 100000 in
theorem d2_run_2 : d2K 2 = true := by kernel_rfl
set_option maxRecDepth 100000 in
theorem d2_run_3 : d2K 3 = true := by kernel_rfl
set_option maxRecDepth 100000 in
theorem d2_run_4 : d2K 4 = true := by kernel_rfl
set_option maxRecDepth 100000 in
theorem d2_run_5 : d2K 5 = true := by kernel_rfl
set_option maxRecDepth 100000 in
theorem d2_run_6 : d2K 6 = true := by kernel_rfl
set_option maxRecDepth 100000 in
theorem d2_run_7 : d2K 7 = true := by kernel_rfl
set_option maxRecDepth 100000 in
theorem d2_run_8 : d2K 8 = true := by kernel_rfl
set_option maxRecDepth 100000 in
theorem d2_run_9 : d2K 9 = true := by kernel_rfl
set_option maxRecDepth 100000 in
theorem d2_run_10 : d2K 10 = true := by kernel_rfl
set_option maxRecDepth 100000 in
theorem d2_run_11 : d2K 11 = true := by kernel_rfl
set_option maxRecDepth 100000 in
theorem d2_run_lo : d2lo = true := by kernel_rfl
set_option maxRecDepth 100000 in
theorem d2_run_hi : d2hi = true := by kernel_rfl
end Go.Proofs.YtopfaapcekiojaaGreat.Sym

/- Decode of the words that Encode gives: runs 1. -/
namespace Go.Proofs.YtopfaapcekiojaaGreat.Sym
open Go Go.RowKit Go.Proofs.YtopfaapcekiojaaGreat
set_option maxRecDepth 100000 in
theorem d2_run_12 : d2K 12 = true := by kernel_rfl
set_option maxRecDepth 100000 in
theorem d2_run_13 : d2K 13 = true := by kernel_rfl
set_option maxRecDepth 100000 in
theorem d2_run_14 : d2K 14 = true := by kernel_rfl
set_option maxRecDepth 100000 in
theorem d2_run_15 : d2K 15 = true := by kernel_rfl
set_option maxRecDepth 100000 in
theorem d2_run_16 : d2K 16 = true := by kernel_rfl
set_option maxRecDepth 100000 in
theorem d2_run_17 : d2K 17 = true := by kernel_rfl
set_option maxRecDepth 100000 in
theorem d2_run_18 : d2K 18 = true := by kernel_rfl
set_option maxRecDepth 100000 in
theorem d2_run_19 : d2K 19 = true := by kernel_rfl
set_option maxRecDepth 100000 in
theorem d2_run_20 : d2K 20 = true := by kernel_rfl
set_option maxRecDepth 100000 in
theorem d2_run_21 : d2K 21 = true := by kernel_rfl
set_option maxRecDepth 100000 in
theorem d2_run_22 : d2K 22 = true := by kernel_rfl
end Go.Proofs.YtopfaapcekiojaaGreat.Sym
