/- What the reference guesses of an instruction's word; its Encode: runs 0. -/
import Derived.Test.YtopfaapcekiojaaGreatDecG
namespace Go.Proofs.YtopfaapcekiojaaGreat.Sym
open Go Go.RowKit Go.Proofs.YtopfaapcekiojaaGreat
set_option maxRecDepth 100000 in
theorem g_run_1 : gK 1 = true := by kernel_rfl
set_option maxRecDepth 100000 in
theorem g_run_2 : gK 2 = true := by kernel_rfl
set_option maxRecDepth 100000 in
theorem g_run_3 : gK 3 = true := by kernel_rfl
set_option maxRecDepth 100000 in
theorem g_run_4 : gK 4 = true := by kernel_rfl
set_option maxRecDepth 100000 in
theorem g_run_5 : gK 5 = true := by kernel_rfl
set_option maxRecDepth 100000 in
theorem g_run_6 : gK 6 = true := by kernel_rfl
set_option maxRecDepth 100000 in
theorem g_run_7 : gK 7 = true := by kernel_rfl
set_option maxRecDepth 100000 in
theorem g_run_8 : gK 8 = true := by kernel_rfl
set_option maxRecDepth 100000 in
theorem g_run_9 : gK 9 = true := by kernel_rfl
set_option maxRecDepth 100000 in
theorem g_run_10 : gK 10 = true := by kernel_rfl
set_option maxRecDepth 100000 in
theorem g_run_11 : gK 11 = true := by kernel_rfl
set_option maxRecDepth 100000 in
theorem g_run_12 : gK 12 = true := by kernel_rfl
set_option maxRecDepth 100000 in
theorem r_run_0 : rK 0 = true := by kernel_rfl
set_option maxRecDepth 100000 in
theorem r_run_1 : rK 1 = true := by kernel_rfl
set_option maxRecDepth 100000 in
theorem r_run_2 : rK 2 = true := by kernel_rfl
set_option maxRecDepth 100000 in
theorem r_run_3 : rK 3 = true := by kernel_rfl
set_option maxRecDepth 100000 in
theorem r_run_4 : rK 4 = true := by kernel_rfl
set_option maxRecDepth 100000 in
theorem r_run_5 : rK 5 = true := by kernel_rfl
set_option maxRecDepth 100000 in
theorem r_run_6 : rK 6 = true := by kernel_rfl
set_option maxRecDepth 100000 in
theorem r_run_7 : rK 7 = true := by kernel_rfl
set_option maxRecDepth 100000 in
theorem r_run_8 : rK 8 = true := by kernel_rfl
set_option maxRecDepth 100000 in
theorem r_run_9 : rK 9 = true := by kernel_rfl
set_option maxRecDepth 100000 in
theorem r_run_10 : rK 10 = true := by kernel_rfl
set_option maxRecDepth 100000 in
theorem r_run_11 : rK 11 = true := by kernel_rfl
set_option maxRecDepth 100000 in
theorem r_run_12 : rK 12 = true := by kernel_rfl
theorem r_run_lo : rlo = true := by kernel_rfl
theorem r_run_hi : rhi = true := by kernel_rfl
end Go.Proofs.YtopfaapcekiojaaGreat.Sym
