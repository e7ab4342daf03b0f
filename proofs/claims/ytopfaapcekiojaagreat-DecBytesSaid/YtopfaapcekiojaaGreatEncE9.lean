/- What Encode of enc gives, class by class. (Printed by mkenc.py.) -/
import Derived.Test.YtopfaapcekiojaaGreatEncE0
import Derived.Test.YtopfaapcekiojaaGreatEncE1
import Derived.Test.YtopfaapcekiojaaGreatEncE3
namespace Go.Proofs.YtopfaapcekiojaaGreat.Sym
open Go Go.RowKit Go.Proofs.YtopfaapcekiojaaGreat
noncomputable section
def sm_enc_Encode : Sums := (23, tplsSum tp_enc_Encode) :: encSums
set_option maxRecDepth 100000 in
theorem ok_enc_Encode : AllOk Tryz.prog GoodL sm_enc_Encode := stage (mrg := []) (fuel := 300) keepsL ok_encSums insM (tplRuns_app run_enc_Encode_0 (tplRuns_app run_enc_Encode_1 (tplRuns_app run_enc_Encode_2 (tplRuns_app run_enc_Encode_3 (tplRuns_app run_enc_Encode_4 (tplRuns_app run_enc_Encode_5 (tplRuns_app run_enc_Encode_6 (tplRuns_app run_enc_Encode_7 (tplRuns_app run_enc_Encode_8 (tplRuns_app run_enc_Encode_9 (tplRuns_app run_enc_Encode_10 (tplRuns_app run_enc_Encode_11 (tplRuns_app run_enc_Encode_12 (tplRuns_app run_enc_Encode_13 (tplRuns_app run_enc_Encode_14 (tplRuns_app run_enc_Encode_15 (tplRuns_app run_enc_Encode_16 (tplRuns_app run_enc_Encode_17 (tplRuns_app run_enc_Encode_18 (tplRuns_app run_enc_Encode_19 (tplRuns_app run_enc_Encode_20 (tplRuns_app run_enc_Encode_21 (tplRuns_app run_enc_Encode_22 (tplRuns_app run_enc_Encode_23 (tplRuns_app run_enc_Encode_24 (tplRuns_app run_enc_Encode_25 (tplRuns_app run_enc_Encode_26 (tplRuns_app run_enc_Encode_27 (tplRuns_app run_enc_Encode_28 (tplRuns_app run_enc_Encode_29 (tplRuns_app run_enc_Encode_30 (tplRuns_app run_enc_Encode_31 (tplRuns_app run_enc_Encode_32 (tplRuns_app run_enc_Encode_33 (run_enc_Encode_34))))))))))))))))))))))))))))))))))) (by kernel_rfl)
end
end Go.Proofs.YtopfaapcekiojaaGreat.Sym
