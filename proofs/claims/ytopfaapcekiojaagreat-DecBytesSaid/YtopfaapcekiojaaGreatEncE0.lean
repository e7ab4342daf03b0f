/- What Encode of enc gives, class by class: runs 0. (Printed by mkenc.py.) -/
import Derived.Test.YtopfaapcekiojaaGreatEncE
namespace Go.Proofs.YtopfaapcekiojaaGreat.Sym
open Go Go.RowKit Go.Proofs.YtopfaapcekiojaaGreat
noncomputable section
set_option maxRecDepth 100000 in
theorem run_enc_Encode_0 : tplRuns Tryz.prog encSums [] 300 tp_enc_Encode_0 = true := by kernel_rfl
set_option maxRecDepth 100000 in
theorem run_enc_Encode_1 : tplRuns Tryz.prog encSums [] 300 tp_enc_Encode_1 = true := by kernel_rfl
set_option maxRecDepth 100000 in
theorem run_enc_Encode_2 : tplRuns Tryz.prog encSums [] 300 tp_enc_Encode_2 = true := by kernel_rfl
set_option maxRecDepth 100000 in
theorem run_enc_Encode_3 : tplRuns Tryz.prog encSums [] 300 tp_enc_Encode_3 = true := by kernel_rfl
set_option maxRecDepth 100000 in
theorem run_enc_Encode_4 : tplRuns Tryz.prog encSums [] 300 tp_enc_Encode_4 = true := by kernel_rfl
set_option maxRecDepth 100000 in
theorem run_enc_Encode_5 : tplRuns Tryz.prog encSums [] 300 tp_enc_Encode_5 = true := by kernel_rfl
set_option maxRecDepth 100000 in
theorem run_enc_Encode_6 : tplRuns Tryz.prog encSums [] 300 tp_enc_Encode_6 = true := by kernel_rfl
set_option maxRecDepth 100000 in
theorem run_enc_Encode_7 : tplRuns Tryz.prog encSums [] 300 tp_enc_Encode_7 = true := by kernel_rfl
set_option maxRecDepth 100000 in
theorem run_enc_Encode_8 : tplRuns Tryz.prog encSums [] 300 tp_enc_Encode_8 = true := by kernel_rfl
set_option maxRecDepth 100000 in
theorem run_enc_Encode_9 : tplRuns Tryz.prog encSums [] 300 tp_enc_Encode_9 = true := by kernel_rfl
set_option maxRecDepth 100000 in
theorem run_enc_Encode_10 : tplRuns Tryz.prog encSums [] 300 tp_enc_Encode_10 = true := by kernel_rfl
set_option maxRecDepth 100000 in
theorem run_enc_Encode_11 : tplRuns Tryz.prog encSums [] 300 tp_enc_Encode_11 = true := by kernel_rfl
end
end Go.Proofs.YtopfaapcekiojaaGreat.Sym

/- What Encode of enc gives, class by class: runs 2. (Printed by mkenc.py.) -/
namespace Go.Proofs.YtopfaapcekiojaaGreat.Sym
open Go Go.RowKit Go.Proofs.YtopfaapcekiojaaGreat
noncomputable section
set_option maxRecDepth 100000 in
theorem run_enc_Encode_18 : tplRuns Tryz.prog encSums [] 300 tp_enc_Encode_18 = true := by kernel_rfl
set_option maxRecDepth 100000 in
theorem run_enc_Encode_19 : tplRuns Tryz.prog encSums [] 300 tp_enc_Encode_19 = true := by kernel_rfl
set_option maxRecDepth 100000 in
theorem run_enc_Encode_20 : tplRuns Tryz.prog encSums [] 300 tp_enc_Encode_20 = true := by kernel_rfl
set_option maxRecDepth 100000 in
theorem run_enc_Encode_21 : tplRuns Tryz.prog encSums [] 300 tp_enc_Encode_21 = true := by kernel_rfl
set_option maxRecDepth 100000 in
theorem run_enc_Encode_22 : tplRuns Tryz.prog encSums [] 300 tp_enc_Encode_22 = true := by kernel_rfl
set_option maxRecDepth 100000 in
theorem run_enc_Encode_23 : tplRuns Tryz.prog encSums [] 300 tp_enc_Encode_23 = true := by kernel_rfl
end
end Go.Proofs.YtopfaapcekiojaaGreat.Sym
