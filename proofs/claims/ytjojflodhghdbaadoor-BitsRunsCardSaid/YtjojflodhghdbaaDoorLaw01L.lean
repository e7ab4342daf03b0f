/- What the statements of layer 1 begin with: live. -/
import Derived.Test.YtjojflodhghdbaaDoorRefW2
namespace Go.Proofs.YtjojflodhghdbaaDoor
open Go.RowKit Go.Sort
attribute [local go_sem] cell_gr frozen_gr
set_option linter.unusedVariables false

theorem live_any (w : World) : Calls Tryd.prog 5 #[] w (Ret (.bool true) w) := by
  have c1 := fun W => put_any 0 4 3 5 W ⟨by decide, by decide⟩ ⟨by decide, by decide⟩ ⟨by decide, by decide⟩ ⟨by decide, by decide⟩
  have e1 : putI 0 4 3 5 = 80 := by decide +kernel
  have e2 : putE 4 3 5 = 0 := by decide +kernel
  have c2 := fun W => sign_any 255 8 W ⟨by decide, by decide⟩ ⟨by decide, by decide⟩
  have e3 : signI 255 8 = -1 := by decide +kernel
  have e4 : signE 8 = 0 := by decide +kernel
  have c3 := fun W => turn_any 1 4 1 W ⟨by decide, by decide⟩ ⟨by decide, by decide⟩ ⟨by decide, by decide⟩
  have e5 : turnI 1 4 1 = 8 := by decide +kernel
  have e6 : turnE 1 4 = 0 := by decide +kernel
  rw [e1, e2] at c1
  rw [e3, e4] at c2
  rw [e5, e6] at c3
  clear e1 e2 e3 e4 e5 e6
  go_enter Tryd.func5, Tryd.ntmps5
  go_wp2_with (first
    | (go_at_call 18; refine (c1 _).mono ?_; rintro e w1 ⟨rfl, hb1⟩)
    | (go_at_call 6; refine (c2 _).mono ?_; rintro e w2 ⟨rfl, hb2⟩)
    | (go_at_call 19; refine (c3 _).mono ?_; rintro e w3 ⟨rfl, hb3⟩))
  go_ret
  exact ⟨rfl, bthen (bthen hb1 hb2 hb1.size) hb3 (Nat.le_trans hb1.size hb2.size)⟩
end Go.Proofs.YtjojflodhghdbaaDoor
