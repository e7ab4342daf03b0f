/- What the reference guesses of an instruction's word; its Encode: runs 2. -/
import Derived.Test.YtopfaapcekiojaaGreatDecG
namespace Go.Proofs.YtopfaapcekiojaaGreat.Sym
open Go Go.RowKit Go.Proofs.YtopfaapcekiojaaGreat
set_option maxRecDepth 100000 in
theorem g_run_24 : gK 24 = true := by kernel_rfl
set_option maxRecDepth 100000 in
theorem g_run_25 : gK 25 = true := by kernel_rfl
set_option maxRecDepth 100000 in
theorem g_run_26 : gK 26 = true := by kernel_rfl
set_option maxRecDepth 100000 in
theorem g_run_27 : gK 27 = true := by kernel_rfl
set_option maxRecDepth 100000 in
theorem g_run_28 : gK 28 = true := by kernel_rfl
set_option maxRecDepth 100000 in
theorem g_run_29 : gK 29 = true := by kernel_rfl
set_option maxRecDepth 100000 in
theorem g_run_30 : gK 30 = true := by kernel_rfl
set_option maxRecDepth 100000 in
theorem g_run_31 : gK 31 = true := by kernel_rfl
set_option maxRecDepth 100000 in
theorem g_run_32 : gK 32 = true := by kernel_rfl
set_option maxRecDepth 100000 in
theorem r_run_24 : rK 24 = true := by kernel_rfl
set_option maxRecDepth 100000 in
theorem r_run_25 : rK 25 = true := by kernel_rfl
set_option maxRecDepth 100000 in
theorem r_run_26 : rK 26 = true := by kernel_rfl
set_option maxRecDepth 100000 in
theorem r_run_27 : rK 27 = true := by kernel_rfl
set_option maxRecDepth 100000 in
theorem r_run_28 : rK 28 = true := by kernel_rfl
set_option maxRecDepth 100000 in
theorem r_run_29 : rK 29 = true := by kernel_rfl
set_option maxRecDepth 100000 in
theorem r_run_30 : rK 30 = true := by kernel_rfl
set_option maxRecDepth 100000 in
theorem r_run_31 : rK 31 = true := by kernel_rfl
set_option maxRecDepth 100000 in
theorem r_run_32 : rK 32 = true := by kernel_rfl
end Go.Proofs.YtopfaapcekiojaaGreat.Sym
