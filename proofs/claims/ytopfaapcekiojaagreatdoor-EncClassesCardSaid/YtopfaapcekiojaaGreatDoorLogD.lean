/- Logical immediates: the pattern of parts, and Decode. -/
import Derived.Test.YtopfaapcekiojaaGreatDoorLogW0
import Derived.LoopN
import Derived.Handy
import Derived.Outline
namespace Go.Proofs.YtopfaapcekiojaaGreatDoor
open Go.RowKit Go.Sort
attribute [local go_sem] cell_gr frozen_gr
set_option linter.unusedVariables false

/-- what stands in imms above the number of ones -/
def topI (s : Int) : Int := if 32 ≤ s then 0 else 64 - 2 * s
/-- the size that parts tell -/
def szI (n imms : Int) : Int := if n = 1 then 64 else if imms < 32 then 32 else if imms < 48 then 16 else if imms < 56 then 8 else if imms < 60 then 4 else if imms < 62 then 2 else 0
theorem above_any (s o t : Int) (W : World) (hs : 0 ≤ s) (hs2 : s ≤ 64) : Calls Tryz.prog 114 #[.agg #[.int .i64 s, .int .i64 o, .int .i64 t]] W (Ret (.int .i64 (topI s)) W) := by
  by_cases h : 32 ≤ s
  · have e : topI s = 0 := if_pos h
    rw [e]
    go_enter Tryz.func114, Tryz.ntmps114
    go_wp2
    go_ret
    exact ⟨rfl, bnew _ _⟩
  · have e : topI s = 64 - 2 * s := if_neg h
    rw [e]
    go_enter Tryz.func114, Tryz.ntmps114
    go_wp2
    go_ret
    exact ⟨rfl, bnew _ _⟩
/-- the pattern that parts tell -/
def ofV (n r m : Int) : Value := .agg #[.int .i64 (szI n m), .int .i64 (if szI n m = 0 then 0 else m - topI (szI n m) + 1), .int .i64 (if szI n m = 0 then 0 else r)]
theorem ofV_of (n r m z : Int) (h : szI n m = z) (hz : z ≠ 0) : ofV n r m = .agg #[.int .i64 z, .int .i64 (m - topI z + 1), .int .i64 r] := by
  unfold ofV; rw [h, if_neg hz, if_neg hz]
theorem ofV_no (n r m : Int) (h : szI n m = 0) : ofV n r m = .agg #[.int .i64 0, .int .i64 0, .int .i64 0] := by
  unfold ofV; rw [h, if_pos rfl, if_pos rfl]
theorem szI_low (m z : Int) (hz : z = 32 ∨ z = 16 ∨ z = 8 ∨ z = 4 ∨ z = 2) (h : 64 - 2 * z ≤ m) (h' : m < 64 - z) (hm : 0 ≤ m) : szI 0 m = z := by
  unfold szI
  rcases hz with rfl | rfl | rfl | rfl | rfl <;> (simp only [show ¬ ((0 : Int) = 1) by decide, if_false]; (repeat' split) <;> omega)
theorem topI_low (z : Int) (hz : z = 32 ∨ z = 16 ∨ z = 8 ∨ z = 4 ∨ z = 2) : topI z = 64 - 2 * z := by
  rcases hz with rfl | rfl | rfl | rfl | rfl <;> rfl
end Go.Proofs.YtopfaapcekiojaaGreatDoor
