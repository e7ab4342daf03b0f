/- What Encode of cooperref05 gives, class by class: runs 3. (Printed by mkenc.py.) -/
import Derived.Test.YtopfaapcekiojaaGreatEncR
namespace Go.Proofs.YtopfaapcekiojaaGreat.Sym
open Go Go.RowKit Go.Proofs.YtopfaapcekiojaaGreat
noncomputable section
set_option maxRecDepth 100000 in
theorem run_ref_Encode_24 : tplRuns Tryz.prog renSums [] 300 tp_ref_Encode_24 = true := by kernel_rfl
set_option maxRecDepth 100000 in
theorem run_ref_Encode_25 : tplRuns Tryz.prog renSums [] 300 tp_ref_Encode_25 = true := by kernel_rfl
set_option maxRecDepth 100000 in
theorem run_ref_Encode_26 : tplRuns Tryz.prog renSums [] 300 tp_ref_Encode_26 = true := by kernel_rfl
set_option maxRecDepth 100000 in
theorem run_ref_Encode_27 : tplRuns Tryz.prog renSums [] 300 tp_ref_Encode_27 = true := by kernel_rfl
set_option maxRecDepth 100000 in
theorem run_ref_Encode_28 : tplRuns Tryz.prog renSums [] 300 tp_ref_Encode_28 = true := by kernel_rfl
end
end Go.Proofs.YtopfaapcekiojaaGreat.Sym

/- What Encode of cooperref05 gives, class by class: runs 4. (Printed by mkenc.py.) -/
namespace Go.Proofs.YtopfaapcekiojaaGreat.Sym
open Go Go.RowKit Go.Proofs.YtopfaapcekiojaaGreat
noncomputable section
set_option maxRecDepth 100000 in
theorem run_ref_Encode_29 : tplRuns Tryz.prog renSums [] 300 tp_ref_Encode_29 = true := by kernel_rfl
set_option maxRecDepth 100000 in
theorem run_ref_Encode_30 : tplRuns Tryz.prog renSums [] 300 tp_ref_Encode_30 = true := by kernel_rfl
set_option maxRecDepth 100000 in
theorem run_ref_Encode_31 : tplRuns Tryz.prog renSums [] 300 tp_ref_Encode_31 = true := by kernel_rfl
set_option maxRecDepth 100000 in
theorem run_ref_Encode_32 : tplRuns Tryz.prog renSums [] 300 tp_ref_Encode_32 = true := by kernel_rfl
set_option maxRecDepth 100000 in
theorem run_ref_Encode_33 : tplRuns Tryz.prog renSums [] 300 tp_ref_Encode_33 = true := by kernel_rfl
set_option maxRecDepth 100000 in
theorem run_ref_Encode_34 : tplRuns Tryz.prog renSums [] 300 tp_ref_Encode_34 = true := by kernel_rfl
end
end Go.Proofs.YtopfaapcekiojaaGreat.Sym
