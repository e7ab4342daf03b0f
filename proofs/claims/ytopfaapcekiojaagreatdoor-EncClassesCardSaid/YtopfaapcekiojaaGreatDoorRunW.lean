/- TrailingZeros64, its table laid. -/
import Derived.Test.YtopfaapcekiojaaGreatDoorBitsW1
import Derived.Test.YtopfaapcekiojaaGreatDoorPopW
import Derived.Test.YtopfaapcekiojaaGreatDoorQuietR
import Derived.Test.YtopfaapcekiojaaGreatDoorEachW
import Derived.Shelf.Spec.TrailingZeros
import Derived.RangeFuncBox
import Derived.Maps.AppendAt
namespace Go.Proofs.YtopfaapcekiojaaGreatDoor
open Go.RowKit Go.Sort Go.Shelf
attribute [local go_sem] Oper.semAt_some cell_gr frozen_gr wide_fn asked_wide
set_option linter.unusedVariables false

theorem tz_zero (w : World) : Calls Tryz.prog 71 #[.int .u64 0] w fun e w' => e = .returned (.int .i64 64) ∧ w' = w := by
  go_enter Tryz.func71, Tryz.ntmps71
  go_wp2
  go_ret
  exact ⟨rfl, rfl⟩
theorem tz_core (x k idx : Nat) (w : World) (hx0 : ((x : Int) == 0) = false)
    (key : IntKind.u64.wrap (bits BinOp.and IntKind.u64 (x : Int) (IntKind.u64.wrap (-(x : Int))) * 285870213051353865) / 288230376151711744 = (idx : Int))
    (hi : idx < 64) (hk : k < 64) (hcell : w.cell? ⟨0, idx, none⟩ = some (.int .u8 k)) :
    Calls Tryz.prog 71 #[.int .u64 x] w fun e w' => e = .returned (.int .i64 k) ∧ w' = w := by
  go_enter Tryz.func71, Tryz.ntmps71
  go_wp2_with (simp only [key])
  go_ret
  exact ⟨rfl, rfl⟩
theorem grown_of {W W' : World} (h : Below W.heap.size W W') : W.grownBy W' none := ⟨h.os, h.tape, h.output, h.size, fun k hk _ => h.block k hk⟩
/-- the table, in its variable -/
def Tab (w : World) : Prop := TabAt 0 Lib.deBruijn64tab w
theorem Tab.below {B : Nat} {w w' : World} (h : Tab w) (hb : Below B w w') (hB : 0 < B) : Tab w' := fun j hj => (hb.cell (p := ⟨0, j, none⟩) hB).trans (h j hj)
theorem tz_any (x : Nat) (hx : x < 18446744073709551616) (w : World) (hT : Tab w) : Calls Tryz.prog 71 #[.int .u64 x] w (Same (.int .i64 (Lib.ctz 64 x)) w) := by
  by_cases hx0 : x = 0
  · subst hx0
    exact to_same (tz_zero w)
  · obtain ⟨hlow, hk⟩ := Lib.lowest_bit 64 x hx0 hx
    obtain ⟨hi, htab⟩ := Lib.deBruijn64_at _ hk
    have hcell := hT _ hi
    rw [htab] at hcell
    exact to_same (tz_core x _ _ w (by simp; omega) (tz64_key x _ hx hx0 hlow) hi hk hcell)
end Go.Proofs.YtopfaapcekiojaaGreatDoor
