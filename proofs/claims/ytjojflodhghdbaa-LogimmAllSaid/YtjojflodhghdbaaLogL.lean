/- Logical immediates: what the statements' head asks (begun). -/
import Derived.Test.YtjojflodhghdbaaLogK
namespace Go.Proofs.Ytjojflodhghdbaa
open Go.RowKit Go.Sort
attribute [local go_sem] cell_gr frozen_gr
set_option linter.unusedVariables false

theorem begun_pat : IsPat 255 64 64 8 0 := ⟨⟨by unfold Sz; omega, by omega, by omega, by omega, by omega⟩, by decide⟩
theorem begun_p : patP 255 64 = (64, 8, 0) := patV_is (.inr rfl) begun_pat
theorem begun_e : patErr 255 64 = 0 := by
  show patE 255 64 = 0
  exact if_pos ⟨(64, 8, 0), begun_pat⟩
theorem begun_n : encN 255 64 = 1 := by unfold encN; rw [begun_p]; rfl
theorem begun_r : encR 255 64 = 0 := by unfold encR; rw [begun_p]; rfl
theorem begun_m : encM 255 64 = 7 := by unfold encM; rw [begun_p, begun_e]; rfl
theorem begun_d : decI 0 3 5 32 = 3758096391 := by decide
theorem begun_f : decE 0 3 5 32 = 0 := by decide
theorem begun_any (W : World) : Calls Try.prog 39 #[] W (Ret (.bool true) W) := by
  have h1 := Lib.hid (encode_any 255 64 (by unfold U64; omega))
  have h2 := Lib.hid (decode_any 0 3 5 32 (by unfold I64; omega) (by unfold I64; omega) (by unfold I64; omega) (by unfold I64; omega))
  rw [begun_n, begun_r, begun_m, begun_e] at h1
  rw [begun_d, begun_f] at h2
  go_enter Try.func39, Try.ntmps39
  go_wp2_with (first
      | (go_at_call 40; refine (h1.out _).mono ?_; rintro e wA ⟨rfl, hbA⟩)
      | (go_at_call 35; refine (h2.out _).mono ?_; rintro e wB ⟨rfl, hbB⟩; have hB := bthen hbA hbB hbA.size))
  go_returns
  exact ⟨by simp, hB⟩
end Go.Proofs.Ytjojflodhghdbaa
