/- Holes: how wide, how far, by which relocation; what fits. -/
import Derived.Test.YtddfafapahnaaaaFixC
namespace Go.Proofs.Ytddfafapahnaaaa
open Go.RowKit Go.Sort Go.Shelf
attribute [local go_sem] cell_gr frozen_gr
set_option linter.unusedVariables false
set_option linter.unusedSimpArgs false

theorem hole_cases {k s : Int} (h : checkB k s = true) : (k = 1 ∧ s = 0) ∨ (k = 2 ∧ s = 0) ∨ (k = 3 ∧ s = 0) ∨ (k = 4 ∧ s = 0) ∨ (k = 5 ∧ s = 0) ∨ (k = 6 ∧ s = 0) ∨ (k = 7 ∧ s = 0) ∨ (k = 8 ∧ s = 0) ∨ (k = 9 ∧ s = 0) ∨ (k = 9 ∧ s = 1) ∨ (k = 9 ∧ s = 2) ∨ (k = 9 ∧ s = 3) ∨ (k = 10 ∧ s = 0) ∨ (k = 11 ∧ s = 0) ∨ (k = 12 ∧ s = 0) := by
  obtain ⟨h1, h2, h3, h4, h5⟩ := (checkB_iff k s).1 h
  have hk : k = 1 ∨ k = 2 ∨ k = 3 ∨ k = 4 ∨ k = 5 ∨ k = 6 ∨ k = 7 ∨ k = 8 ∨ k = 9 ∨ k = 10 ∨ k = 11 ∨ k = 12 := by omega
  by_cases h9 : k = 9
  · subst h9
    have hs : s = 0 ∨ s = 1 ∨ s = 2 ∨ s = 3 := by omega
    rcases hs with rfl | rfl | rfl | rfl <;> simp
  · have hs : s = 0 := by omega
    subst hs
    rcases hk with rfl | rfl | rfl | rfl | rfl | rfl | rfl | rfl | rfl | rfl | rfl | rfl <;> simp
def nearB (k : Int) : Bool := decide (1 ≤ k) && decide (k ≤ 6)
def pagesB (k : Int) : Bool := decide (7 ≤ k) && decide (k ≤ 9)
def widthI (k s : Int) : Int := if checkB k s then if k = 10 then 1 else if k = 12 then 8 else 4 else 0
def reachK (k : Int) : Int × Int × Int × Bool :=
  if k = 1 ∨ k = 2 then (-134217728, 134217724, 4, true) else if k = 3 ∨ k = 5 then (-1048576, 1048572, 4, true) else if k = 4 then (-32768, 32764, 4, true)
  else if k = 6 then (-1048576, 1048575, 1, true) else if k = 10 then (-128, 255, 1, true) else if k = 11 then (-2147483648, 4294967295, 1, true)
  else if k = 12 then (-9223372036854775808, 9223372036854775807, 1, true) else (0, 0, 0, false)
def reachT (k s : Int) : Int × Int × Int × Bool := if checkB k s then reachK k else (0, 0, 0, false)
def reachV (k s : Int) : Value := .tuple #[.int .i64 (reachT k s).1, .int .i64 (reachT k s).2.1, .int .i64 (reachT k s).2.2.1, .bool (reachT k s).2.2.2]
def typeK (k s : Int) : Int :=
  if k = 1 then 282 else if k = 2 then 283 else if k = 3 then 280 else if k = 4 then 279 else if k = 5 then 273 else if k = 6 then 274 else if k = 7 then 275 else if k = 8 then 277
  else if k = 9 then if s = 0 then 278 else if s = 1 then 284 else if s = 2 then 285 else 286 else if k = 11 then 258 else 257
/-- a relocation's type, and what is wrong -/
def typeT (k s : Int) (far : Bool) : Int × Int :=
  if checkB k s then if far then if k = 11 then (261, 0) else if k = 12 then (260, 0) else (0, 180) else if k = 10 then (0, 180) else (typeK k s, 0) else (0, 1)
def typeV (k s : Int) (far : Bool) : Value := .tuple #[.int .i64 (typeT k s far).1, .int .i64 (typeT k s far).2]
set_option maxHeartbeats 1000000 in
theorem hole_cells {k s a : Int} {p m : ByteArray} {w w1 : World} (hb : Below (w.alloc (.cells #[.int .i64 k, .int .i64 s, .int .i64 a, .string p, .string m] 25)).heap.size (w.alloc (.cells #[.int .i64 k, .int .i64 s, .int .i64 a, .string p, .string m] 25)) w1) :
    w1.cell? ⟨w.heap.size, 0, none⟩ = some (.int .i64 k) ∧ w1.cell? ⟨w.heap.size, 1, none⟩ = some (.int .i64 s) ∧ w1.cell? ⟨w.heap.size, 2, none⟩ = some (.int .i64 a) ∧ w1.cell? ⟨w.heap.size, 3, none⟩ = some (.string p) ∧ w1.cell? ⟨w.heap.size, 4, none⟩ = some (.string m) ∧ w.heap.size < w1.heap.size := by
  have hz : w.heap.size < (w.alloc (.cells #[.int .i64 k, .int .i64 s, .int .i64 a, .string p, .string m] 25)).heap.size := by simp
  refine ⟨?_, ?_, ?_, ?_, ?_, Nat.lt_of_lt_of_le hz hb.size⟩
  all_goals
    rw [(bcell hb).1 _ _ hz]
    simp [go_sem]
set_option maxRecDepth 100000 in
set_option maxHeartbeats 2000000 in
theorem width_any (k s a : Int) (p m : ByteArray) (w : World) : Calls Try.prog 21 #[holeV k s a p m] w (Ret (.int .i64 (widthI k s)) w) := by
  have hc := Lib.hid (check_any k s a p m)
  unfold holeV at *
  cases h : checkB k s
  · have e : checkE k s = 1 := by unfold checkE; rw [h]; rfl
    have e2 : (.int .i64 (widthI k s) : Value) = .int .i64 0 := by unfold widthI; rw [h]; rfl
    rw [e] at hc
    rw [e2]
    clear e e2 h
    go_enter Try.func21, Try.ntmps21
    go_wp2_with (go_at_call 19; refine (hc.out _).mono ?_; rintro e w1 ⟨rfl, hb1⟩; have hB := bone hb1; obtain ⟨k0, k1, k2, k3, k4, kz⟩ := hole_cells hb1)
    go_returns
    exact ⟨rfl, hB⟩
  · have e : checkE k s = 0 := by unfold checkE; rw [h]; rfl
    rw [e] at hc
    clear e
    rcases hole_cases h with ⟨rfl, rfl⟩ | ⟨rfl, rfl⟩ | ⟨rfl, rfl⟩ | ⟨rfl, rfl⟩ | ⟨rfl, rfl⟩ | ⟨rfl, rfl⟩ | ⟨rfl, rfl⟩ | ⟨rfl, rfl⟩ | ⟨rfl, rfl⟩ | ⟨rfl, rfl⟩ | ⟨rfl, rfl⟩ | ⟨rfl, rfl⟩ | ⟨rfl, rfl⟩ | ⟨rfl, rfl⟩ | ⟨rfl, rfl⟩
    all_goals clear h
    all_goals
      go_enter Try.func21, Try.ntmps21
      go_wp2_with (go_at_call 19; refine (hc.out _).mono ?_; rintro e w1 ⟨rfl, hb1⟩; have hB := bone hb1; obtain ⟨k0, k1, k2, k3, k4, kz⟩ := hole_cells hb1)
      go_returns
      first | exact ⟨rfl, hB⟩ | exact ⟨rfl, hB.alloc hB.size _⟩
set_option maxRecDepth 100000 in
set_option maxHeartbeats 2000000 in
theorem rwidth_any (k s a : Int) (p m : ByteArray) (w : World) : Calls Try.prog 22 #[holeV k s a p m] w (Ret (.int .i64 (widthI k s)) w) := by
  have hc := Lib.hid (rcheck_any k s a p m)
  unfold holeV at *
  cases h : checkB k s
  · have e : checkE k s = 1 := by unfold checkE; rw [h]; rfl
    have e2 : (.int .i64 (widthI k s) : Value) = .int .i64 0 := by unfold widthI; rw [h]; rfl
    rw [e] at hc
    rw [e2]
    clear e e2 h
    go_enter Try.func22, Try.ntmps22
    go_wp2_with (go_at_call 20; refine (hc.out _).mono ?_; rintro e w1 ⟨rfl, hb1⟩; have hB := bone hb1; obtain ⟨k0, k1, k2, k3, k4, kz⟩ := hole_cells hb1)
    go_returns
    exact ⟨rfl, hB⟩
  · have e : checkE k s = 0 := by unfold checkE; rw [h]; rfl
    rw [e] at hc
    clear e
    rcases hole_cases h with ⟨rfl, rfl⟩ | ⟨rfl, rfl⟩ | ⟨rfl, rfl⟩ | ⟨rfl, rfl⟩ | ⟨rfl, rfl⟩ | ⟨rfl, rfl⟩ | ⟨rfl, rfl⟩ | ⟨rfl, rfl⟩ | ⟨rfl, rfl⟩ | ⟨rfl, rfl⟩ | ⟨rfl, rfl⟩ | ⟨rfl, rfl⟩ | ⟨rfl, rfl⟩ | ⟨rfl, rfl⟩ | ⟨rfl, rfl⟩
    all_goals clear h
    all_goals
      go_enter Try.func22, Try.ntmps22
      go_wp2_with (go_at_call 20; refine (hc.out _).mono ?_; rintro e w1 ⟨rfl, hb1⟩; have hB := bone hb1; obtain ⟨k0, k1, k2, k3, k4, kz⟩ := hole_cells hb1)
      go_returns
      first | exact ⟨rfl, hB⟩ | exact ⟨rfl, hB.alloc hB.size _⟩
set_option maxRecDepth 100000 in
set_option maxHeartbeats 2000000 in
theorem reach_any (k s a : Int) (p m : ByteArray) (w : World) : Calls Try.prog 14 #[holeV k s a p m] w (Ret (reachV k s) w) := by
  have hc := Lib.hid (check_any k s a p m)
  unfold holeV at *
  cases h : checkB k s
  · have e : checkE k s = 1 := by unfold checkE; rw [h]; rfl
    have e2 : (reachV k s : Value) = .tuple #[.int .i64 0, .int .i64 0, .int .i64 0, .bool false] := by unfold reachV reachT; rw [h]; rfl
    rw [e] at hc
    rw [e2]
    clear e e2 h
    go_enter Try.func14, Try.ntmps14
    go_wp2_with (go_at_call 19; refine (hc.out _).mono ?_; rintro e w1 ⟨rfl, hb1⟩; have hB := bone hb1; obtain ⟨k0, k1, k2, k3, k4, kz⟩ := hole_cells hb1)
    go_returns
    exact ⟨rfl, hB⟩
  · have e : checkE k s = 0 := by unfold checkE; rw [h]; rfl
    rw [e] at hc
    clear e
    rcases hole_cases h with ⟨rfl, rfl⟩ | ⟨rfl, rfl⟩ | ⟨rfl, rfl⟩ | ⟨rfl, rfl⟩ | ⟨rfl, rfl⟩ | ⟨rfl, rfl⟩ | ⟨rfl, rfl⟩ | ⟨rfl, rfl⟩ | ⟨rfl, rfl⟩ | ⟨rfl, rfl⟩ | ⟨rfl, rfl⟩ | ⟨rfl, rfl⟩ | ⟨rfl, rfl⟩ | ⟨rfl, rfl⟩ | ⟨rfl, rfl⟩
    all_goals clear h
    all_goals
      go_enter Try.func14, Try.ntmps14
      go_wp2_with (go_at_call 19; refine (hc.out _).mono ?_; rintro e w1 ⟨rfl, hb1⟩; have hB := bone hb1; obtain ⟨k0, k1, k2, k3, k4, kz⟩ := hole_cells hb1)
      go_returns
      first | exact ⟨rfl, hB⟩ | exact ⟨rfl, hB.alloc hB.size _⟩
set_option maxRecDepth 100000 in
set_option maxHeartbeats 2000000 in
theorem rreach_any (k s a : Int) (p m : ByteArray) (w : World) : Calls Try.prog 15 #[holeV k s a p m] w (Ret (reachV k s) w) := by
  have hc := Lib.hid (rcheck_any k s a p m)
  unfold holeV at *
  cases h : checkB k s
  · have e : checkE k s = 1 := by unfold checkE; rw [h]; rfl
    have e2 : (reachV k s : Value) = .tuple #[.int .i64 0, .int .i64 0, .int .i64 0, .bool false] := by unfold reachV reachT; rw [h]; rfl
    rw [e] at hc
    rw [e2]
    clear e e2 h
    go_enter Try.func15, Try.ntmps15
    go_wp2_with (go_at_call 20; refine (hc.out _).mono ?_; rintro e w1 ⟨rfl, hb1⟩; have hB := bone hb1; obtain ⟨k0, k1, k2, k3, k4, kz⟩ := hole_cells hb1)
    go_returns
    exact ⟨rfl, hB⟩
  · have e : checkE k s = 0 := by unfold checkE; rw [h]; rfl
    rw [e] at hc
    clear e
    rcases hole_cases h with ⟨rfl, rfl⟩ | ⟨rfl, rfl⟩ | ⟨rfl, rfl⟩ | ⟨rfl, rfl⟩ | ⟨rfl, rfl⟩ | ⟨rfl, rfl⟩ | ⟨rfl, rfl⟩ | ⟨rfl, rfl⟩ | ⟨rfl, rfl⟩ | ⟨rfl, rfl⟩ | ⟨rfl, rfl⟩ | ⟨rfl, rfl⟩ | ⟨rfl, rfl⟩ | ⟨rfl, rfl⟩ | ⟨rfl, rfl⟩
    all_goals clear h
    all_goals
      go_enter Try.func15, Try.ntmps15
      go_wp2_with (go_at_call 20; refine (hc.out _).mono ?_; rintro e w1 ⟨rfl, hb1⟩; have hB := bone hb1; obtain ⟨k0, k1, k2, k3, k4, kz⟩ := hole_cells hb1)
      go_returns
      first | exact ⟨rfl, hB⟩ | exact ⟨rfl, hB.alloc hB.size _⟩
end Go.Proofs.Ytddfafapahnaaaa
