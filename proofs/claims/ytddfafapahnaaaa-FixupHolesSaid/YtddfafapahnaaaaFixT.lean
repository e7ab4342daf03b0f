/- Holes: by which relocation. -/
import Derived.Test.YtddfafapahnaaaaFixR
import Derived.RegionTactic
import Derived.BigRegion
namespace Go.Proofs.Ytddfafapahnaaaa
open Go.RowKit Go.Sort Go.Shelf
attribute [local go_sem] cell_gr frozen_gr
set_option linter.unusedVariables false
set_option linter.unusedSimpArgs false
set_option maxRecDepth 100000 in
set_option maxHeartbeats 2000000 in
theorem type_any (k s a : Int) (p m : ByteArray) (far : Bool) (w : World) : Calls Try.prog 16 #[holeV k s a p m, .bool far] w (Ret (typeV k s far) w) := by
  have hc := Lib.hid (check_any k s a p m)
  unfold holeV at *
  have ix0 : ∀ W, Sem.run Try.prog (Instr.index 88 (.agg #[.int .i64 278, .int .i64 284, .int .i64 285, .int .i64 286]) (.int .i64 0)) W = .ok (.int .i64 278) W := fun _ => by kernel_rfl
  have ix1 : ∀ W, Sem.run Try.prog (Instr.index 88 (.agg #[.int .i64 278, .int .i64 284, .int .i64 285, .int .i64 286]) (.int .i64 1)) W = .ok (.int .i64 284) W := fun _ => by kernel_rfl
  have ix2 : ∀ W, Sem.run Try.prog (Instr.index 88 (.agg #[.int .i64 278, .int .i64 284, .int .i64 285, .int .i64 286]) (.int .i64 2)) W = .ok (.int .i64 285) W := fun _ => by kernel_rfl
  have ix3 : ∀ W, Sem.run Try.prog (Instr.index 88 (.agg #[.int .i64 278, .int .i64 284, .int .i64 285, .int .i64 286]) (.int .i64 3)) W = .ok (.int .i64 286) W := fun _ => by kernel_rfl
  cases h : checkB k s
  · have e : checkE k s = 1 := by unfold checkE; rw [h]; rfl
    have e2 : (typeV k s far : Value) = .tuple #[.int .i64 0, .int .i64 1] := by unfold typeV typeT; rw [h]; rfl
    rw [e] at hc
    rw [e2]
    clear e e2 h
    go_enter Try.func16, Try.ntmps16
    go_wp2_with (go_at_call 19; refine (hc.out _).mono ?_; rintro e w1 ⟨rfl, hb1⟩; have hB := bone hb1; obtain ⟨k0, k1, k2, k3, k4, kz⟩ := hole_cells hb1)
    go_returns
    exact ⟨rfl, hB⟩
  · have e : checkE k s = 0 := by unfold checkE; rw [h]; rfl
    rw [e] at hc
    clear e
    rcases hole_cases h with ⟨rfl, rfl⟩ | ⟨rfl, rfl⟩ | ⟨rfl, rfl⟩ | ⟨rfl, rfl⟩ | ⟨rfl, rfl⟩ | ⟨rfl, rfl⟩ | ⟨rfl, rfl⟩ | ⟨rfl, rfl⟩ | ⟨rfl, rfl⟩ | ⟨rfl, rfl⟩ | ⟨rfl, rfl⟩ | ⟨rfl, rfl⟩ | ⟨rfl, rfl⟩ | ⟨rfl, rfl⟩ | ⟨rfl, rfl⟩
    all_goals clear h
    all_goals cases far
    all_goals
      go_enter Try.func16, Try.ntmps16
      go_wp2_with (go_at_call 19; refine (hc.out _).mono ?_; rintro e w1 ⟨rfl, hb1⟩; have hB := bone hb1; obtain ⟨k0, k1, k2, k3, k4, kz⟩ := hole_cells hb1)
      first
        | (go_returns; exact ⟨rfl, hB⟩)
        | (go_returns; exact ⟨rfl, hB.alloc hB.size _⟩)
        | (go_region; go_wp2; go_returns; exact ⟨rfl, hB.drew⟩)
set_option maxRecDepth 100000 in
set_option maxHeartbeats 2000000 in
theorem rtype_any (k s a : Int) (p m : ByteArray) (far : Bool) (w : World) : Calls Try.prog 17 #[holeV k s a p m, .bool far] w (Ret (typeV k s far) w) := by
  have hc := Lib.hid (rcheck_any k s a p m)
  unfold holeV at *
  cases h : checkB k s
  · have e : checkE k s = 1 := by unfold checkE; rw [h]; rfl
    have e2 : (typeV k s far : Value) = .tuple #[.int .i64 0, .int .i64 1] := by unfold typeV typeT; rw [h]; rfl
    rw [e] at hc
    rw [e2]
    clear e e2 h
    go_enter Try.func17, Try.ntmps17
    go_wp2_with (go_at_call 20; refine (hc.out _).mono ?_; rintro e w1 ⟨rfl, hb1⟩; have hB := bone hb1; obtain ⟨k0, k1, k2, k3, k4, kz⟩ := hole_cells hb1)
    go_returns
    exact ⟨rfl, hB⟩
  · have e : checkE k s = 0 := by unfold checkE; rw [h]; rfl
    rw [e] at hc
    clear e
    rcases hole_cases h with ⟨rfl, rfl⟩ | ⟨rfl, rfl⟩ | ⟨rfl, rfl⟩ | ⟨rfl, rfl⟩ | ⟨rfl, rfl⟩ | ⟨rfl, rfl⟩ | ⟨rfl, rfl⟩ | ⟨rfl, rfl⟩ | ⟨rfl, rfl⟩ | ⟨rfl, rfl⟩ | ⟨rfl, rfl⟩ | ⟨rfl, rfl⟩ | ⟨rfl, rfl⟩ | ⟨rfl, rfl⟩ | ⟨rfl, rfl⟩
    all_goals clear h
    all_goals cases far
    all_goals
      go_enter Try.func17, Try.ntmps17
      go_wp2_with (go_at_call 20; refine (hc.out _).mono ?_; rintro e w1 ⟨rfl, hb1⟩; have hB := bone hb1; obtain ⟨k0, k1, k2, k3, k4, kz⟩ := hole_cells hb1)
      first
        | (go_returns; exact ⟨rfl, hB⟩)
        | (go_returns; exact ⟨rfl, hB.alloc hB.size _⟩)
        | (go_region; go_wp2; go_returns; exact ⟨rfl, hB.drew⟩)
end Go.Proofs.Ytddfafapahnaaaa
