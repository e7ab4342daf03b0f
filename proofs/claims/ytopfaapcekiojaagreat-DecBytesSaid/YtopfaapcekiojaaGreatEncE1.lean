/- What Encode of enc gives, class by class: runs 1. (Printed by mkenc.py.) -/
import Derived.Test.YtopfaapcekiojaaGreatEncE
namespace Go.Proofs.YtopfaapcekiojaaGreat.Sym
open Go Go.RowKit Go.Proofs.YtopfaapcekiojaaGreat
noncomputable section
set_option maxRecDepth 100000 in
theorem run_enc_Encode_12 : tplRuns Tryz.prog encSums [] 300 tp_enc_Encode_12 = true := by kernel_rfl
set_option maxRecDepth 100000 in
theorem run_enc_Encode_13 : tplRuns Tryz.prog encSums [] 300 tp_enc_Encode_13 = true := by kernel_rfl
set_option maxRecDepth 100000 in
theorem run_enc_Encode_14 : tplRuns Tryz.prog encSums [] 300 tp_enc_Encode_14 = true := by kernel_rfl
set_option maxRecDepth 100000 in
theorem run_enc_Encode_15 : tplRuns Tryz.prog encSums [] 300 tp_enc_Encode_15 = true := by kernel_rfl
set_option maxRecDepth 100000 in
theorem run_enc_Encode_16 : tplRuns Tryz.prog encSums [] 300 tp_enc_Encode_16 = true := by kernel_rfl
set_option maxRecDepth 100000 in
theorem run_enc_Encode_17 : tplRuns Tryz.prog encSums [] 300 tp_enc_Encode_17 = true := by kernel_rfl
end
end Go.Proofs.YtopfaapcekiojaaGreat.Sym
