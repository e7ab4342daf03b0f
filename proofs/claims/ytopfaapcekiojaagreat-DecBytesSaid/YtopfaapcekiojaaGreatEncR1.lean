/- What Encode of cooperref05 gives, class by class: runs 1. (Printed by mkenc.py.) -/
import Derived.Test.YtopfaapcekiojaaGreatEncR
namespace Go.Proofs.YtopfaapcekiojaaGreat.Sym
open Go Go.RowKit Go.Proofs.YtopfaapcekiojaaGreat
noncomputable section
set_option maxRecDepth 100000 in
theorem run_ref_Encode_12 : tplRuns Tryz.prog renSums [] 300 tp_ref_Encode_12 = true := by kernel_rfl
set_option maxRecDepth 100000 in
theorem run_ref_Encode_13 : tplRuns Tryz.prog renSums [] 300 tp_ref_Encode_13 = true := by kernel_rfl
set_option maxRecDepth 100000 in
theorem run_ref_Encode_14 : tplRuns Tryz.prog renSums [] 300 tp_ref_Encode_14 = true := by kernel_rfl
set_option maxRecDepth 100000 in
theorem run_ref_Encode_15 : tplRuns Tryz.prog renSums [] 300 tp_ref_Encode_15 = true := by kernel_rfl
set_option maxRecDepth 100000 in
theorem run_ref_Encode_16 : tplRuns Tryz.prog renSums [] 300 tp_ref_Encode_16 = true := by kernel_rfl
set_option maxRecDepth 100000 in
theorem run_ref_Encode_17 : tplRuns Tryz.prog renSums [] 300 tp_ref_Encode_17 = true := by kernel_rfl
end
end Go.Proofs.YtopfaapcekiojaaGreat.Sym
