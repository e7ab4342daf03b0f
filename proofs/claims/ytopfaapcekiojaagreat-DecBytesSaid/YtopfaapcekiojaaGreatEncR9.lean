/- What Encode of cooperref05 gives, class by class. (Printed by mkenc.py.) -/
import Derived.Test.YtopfaapcekiojaaGreatEncR0
import Derived.Test.YtopfaapcekiojaaGreatEncR1
import Derived.Test.YtopfaapcekiojaaGreatEncR3
import Derived.Test.YtopfaapcekiojaaGreatInsF
namespace Go.Proofs.YtopfaapcekiojaaGreat.Sym
open Go Go.RowKit Go.Proofs.YtopfaapcekiojaaGreat
noncomputable section
def sm_ref_Encode : Sums := (12, tplsSum tp_ref_Encode) :: renSums
set_option maxRecDepth 100000 in
theorem ok_ref_Encode : AllOk Tryz.prog GoodL sm_ref_Encode := stage (mrg := []) (fuel := 300) keepsL ok_renSums insM (tplRuns_app run_ref_Encode_0 (tplRuns_app run_ref_Encode_1 (tplRuns_app run_ref_Encode_2 (tplRuns_app run_ref_Encode_3 (tplRuns_app run_ref_Encode_4 (tplRuns_app run_ref_Encode_5 (tplRuns_app run_ref_Encode_6 (tplRuns_app run_ref_Encode_7 (tplRuns_app run_ref_Encode_8 (tplRuns_app run_ref_Encode_9 (tplRuns_app run_ref_Encode_10 (tplRuns_app run_ref_Encode_11 (tplRuns_app run_ref_Encode_12 (tplRuns_app run_ref_Encode_13 (tplRuns_app run_ref_Encode_14 (tplRuns_app run_ref_Encode_15 (tplRuns_app run_ref_Encode_16 (tplRuns_app run_ref_Encode_17 (tplRuns_app run_ref_Encode_18 (tplRuns_app run_ref_Encode_19 (tplRuns_app run_ref_Encode_20 (tplRuns_app run_ref_Encode_21 (tplRuns_app run_ref_Encode_22 (tplRuns_app run_ref_Encode_23 (tplRuns_app run_ref_Encode_24 (tplRuns_app run_ref_Encode_25 (tplRuns_app run_ref_Encode_26 (tplRuns_app run_ref_Encode_27 (tplRuns_app run_ref_Encode_28 (tplRuns_app run_ref_Encode_29 (tplRuns_app run_ref_Encode_30 (tplRuns_app run_ref_Encode_31 (tplRuns_app run_ref_Encode_32 (tplRuns_app run_ref_Encode_33 (run_ref_Encode_34))))))))))))))))))))))))))))))))))) (by kernel_rfl)
end
end Go.Proofs.YtopfaapcekiojaaGreat.Sym

/- Encode of enc and of cooperref05 give the same. -/
namespace Go.Proofs.YtopfaapcekiojaaGreat.Sym
open Go Go.RowKit Go.Proofs.YtopfaapcekiojaaGreat
noncomputable section
set_option linter.unusedVariables false
/-- two numbers are the same, choice by choice on both sides -/
def eqTwo : Nat → PC → SE → SE → Bool
  | 0, _, _, _ => false
  | n + 1, pc, a, b => okOr pc fun pc => match a with
    | .ite c x y => match decT pc c with
      | some true => eqTwo n pc x b
      | some false => eqTwo n pc y b
      | none => match eqTwo n (assume pc c true) x b with
        | true => eqTwo n (assume pc c false) y b
        | false => false
    | a => eqBy n pc b a
theorem eqTwo_ok {ρ : Env} : ∀ {n : Nat} {pc : PC} {a b : SE}, PcOk ρ pc → eqTwo n pc a b = true → a.int ρ = b.int ρ
  | 0, _, _, _, _, h => by cases h
  | n + 1, pc, a, b, ok, h => by
    unfold eqTwo at h
    replace h := okOr_ok ok h
    split at h
    · rename_i c x y
      show (if c.tru ρ then x.int ρ else y.int ρ) = _
      split at h
      · rename_i hd; rw [if_pos (decT_ok ok hd)]; exact eqTwo_ok ok h
      · rename_i hd; rw [if_neg (by rw [decT_ok ok hd]; simp)]; exact eqTwo_ok ok h
      · split at h
        · rename_i hx
          cases hc : c.tru ρ with
          | true => rw [if_pos rfl]; exact eqTwo_ok (assume_ok ok hc) hx
          | false => rw [if_neg (by simp)]; exact eqTwo_ok (assume_ok ok hc) h
        · cases h
    · exact (eqBy_ok ok h).symm
end
end Go.Proofs.YtopfaapcekiojaaGreat.Sym
