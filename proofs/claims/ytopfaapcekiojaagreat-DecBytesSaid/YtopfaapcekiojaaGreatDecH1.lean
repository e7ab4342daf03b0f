/- What the reference guesses of an instruction's word; its Encode: runs 1. -/
import Derived.Test.YtopfaapcekiojaaGreatDecG
namespace Go.Proofs.YtopfaapcekiojaaGreat.Sym
open Go Go.RowKit Go.Proofs.YtopfaapcekiojaaGreat
set_option maxRecDepth 100000 in
theorem g_run_13 : gK 13 = true := by kernel_rfl
set_option maxRecDepth 100000 in
theorem g_run_14 : gK 14 = true := by kernel_rfl
set_option maxRecDepth 100000 in
theorem g_run_15 : gK 15 = true := by kernel_rfl
set_option maxRecDepth 100000 in
theorem g_run_16 : gK 16 = true := by kernel_rfl
set_option maxRecDepth 100000 in
theorem g_run_17 : gK 17 = true := by kernel_rfl
set_option maxRecDepth 100000 in
theorem g_run_18 : gK 18 = true := by kernel_rfl
set_option maxRecDepth 100000 in
theorem g_run_19 : gK 19 = true := by kernel_rfl
set_option maxRecDepth 100000 in
theorem g_run_20 : gK 20 = true := by kernel_rfl
set_option maxRecDepth 100000 in
theorem g_run_21 : gK 21 = true := by kernel_rfl
set_option maxRecDepth 100000 in
theorem g_run_22 : gK 22 = true := by kernel_rfl
set_option maxRecDepth 100000 in
theorem g_run_23 : gK 23 = true := by kernel_rfl
set_option maxRecDepth 100000 in
theorem r_run_13 : rK 13 = true := by kernel_rfl
set_option maxRecDepth 100000 in
theorem r_run_14 : rK 14 = true := by kernel_rfl
set_option maxRecDepth 100000 in
theorem r_run_15 : rK 15 = true := by kernel_rfl
set_option maxRecDepth 100000 in
theorem r_run_16 : rK 16 = true := by kernel_rfl
set_option maxRecDepth 100000 in
theorem r_run_17 : rK 17 = true := by kernel_rfl
set_option maxRecDepth 100000 in
theorem r_run_18 : rK 18 = true := by kernel_rfl
set_option maxRecDepth 100000 in
theorem r_run_19 : rK 19 = true := by kernel_rfl
set_option maxRecDepth 100000 in
theorem r_run_20 : rK 20 = true := by kernel_rfl
set_option maxRecDepth 100000 in
theorem r_run_21 : rK 21 = true := by kernel_rfl
set_option maxRecDepth 100000 in
theorem r_run_22 : rK 22 = true := by kernel_rfl
set_option maxRecDepth 100000 in
theorem r_run_23 : rK 23 = true := by kernel_rfl
end Go.Proofs.YtopfaapcekiojaaGreat.Sym
