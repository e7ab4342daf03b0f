/- Logical immediates: find at whatever value and width; Encode, Pattern, Field. -/
import Derived.Test.YtopfaapcekiojaaGreatLogH
namespace Go.Proofs.YtopfaapcekiojaaGreat
open Go.RowKit Go.Sort Go.Shelf
attribute [local go_sem] Oper.semAt_some cell_gr frozen_gr wide_fn asked_wide
set_option linter.unusedVariables false

set_option maxRecDepth 100000 in
set_option maxHeartbeats 4000000 in
theorem find_wide (v : Int) (hv : U64 v) (hv2 : 4294967296 ≤ v) (W : World) :
    CallsIn Fence.wide 4 Tryz.prog 170 #[.int .u64 v, .int .i64 32] W (Ret (findT (0, 0, 0) 20) W) := by
  have e1 : widB 32 = true := rfl
  refine callsIn_of_wp_marks Tryz.func170 rfl trivial ?_ rfl
  simp only [Tryz.ntmps170, List.size_toArray, List.length_cons, List.length_nil, Nat.reduceAdd, Nat.reduceSub, Array.replicate_succ, Array.replicate_zero, List.push_toArray, List.append_toArray, List.nil_append, List.cons_append]
  have c0 : ((((W.alloc (Obj.cells #[Value.int IntKind.u64 v] 89)).alloc (Obj.cells #[Value.int IntKind.i64 32] 3)).alloc (Obj.cells #[Value.int IntKind.i64 0, Value.int IntKind.i64 0, Value.int IntKind.i64 0] 150)).alloc (Obj.cells #[Value.int IntKind.i64 0] 25)).cell? ⟨W.heap.size, 0, none⟩ = some (.int .u64 v) := by simp [go_sem]
  have c1 : ((((W.alloc (Obj.cells #[Value.int IntKind.u64 v] 89)).alloc (Obj.cells #[Value.int IntKind.i64 32] 3)).alloc (Obj.cells #[Value.int IntKind.i64 0, Value.int IntKind.i64 0, Value.int IntKind.i64 0] 150)).alloc (Obj.cells #[Value.int IntKind.i64 0] 25)).cell? ⟨W.heap.size + 1, 0, none⟩ = some (.int .i64 32) := by simp [go_sem]
  have c2 : ((((W.alloc (Obj.cells #[Value.int IntKind.u64 v] 89)).alloc (Obj.cells #[Value.int IntKind.i64 32] 3)).alloc (Obj.cells #[Value.int IntKind.i64 0, Value.int IntKind.i64 0, Value.int IntKind.i64 0] 150)).alloc (Obj.cells #[Value.int IntKind.i64 0] 25)).cell? ⟨W.heap.size + 1 + 1, 0, none⟩ = some (.int .i64 0) := by simp [go_sem]
  have c3 : ((((W.alloc (Obj.cells #[Value.int IntKind.u64 v] 89)).alloc (Obj.cells #[Value.int IntKind.i64 32] 3)).alloc (Obj.cells #[Value.int IntKind.i64 0, Value.int IntKind.i64 0, Value.int IntKind.i64 0] 150)).alloc (Obj.cells #[Value.int IntKind.i64 0] 25)).cell? ⟨W.heap.size + 1 + 1, 1, none⟩ = some (.int .i64 0) := by simp [go_sem]
  have c4 : ((((W.alloc (Obj.cells #[Value.int IntKind.u64 v] 89)).alloc (Obj.cells #[Value.int IntKind.i64 32] 3)).alloc (Obj.cells #[Value.int IntKind.i64 0, Value.int IntKind.i64 0, Value.int IntKind.i64 0] 150)).alloc (Obj.cells #[Value.int IntKind.i64 0] 25)).cell? ⟨W.heap.size + 1 + 1, 2, none⟩ = some (.int .i64 0) := by simp [go_sem]
  have c5 : ((((W.alloc (Obj.cells #[Value.int IntKind.u64 v] 89)).alloc (Obj.cells #[Value.int IntKind.i64 32] 3)).alloc (Obj.cells #[Value.int IntKind.i64 0, Value.int IntKind.i64 0, Value.int IntKind.i64 0] 150)).alloc (Obj.cells #[Value.int IntKind.i64 0] 25)).cell? ⟨W.heap.size + 1 + 1 + 1, 0, none⟩ = some (.int .i64 0) := by simp [go_sem]
  have f2 : ((((W.alloc (Obj.cells #[Value.int IntKind.u64 v] 89)).alloc (Obj.cells #[Value.int IntKind.i64 32] 3)).alloc (Obj.cells #[Value.int IntKind.i64 0, Value.int IntKind.i64 0, Value.int IntKind.i64 0] 150)).alloc (Obj.cells #[Value.int IntKind.i64 0] 25)).frozen? ⟨W.heap.size + 1 + 1, 0, none⟩ = false := by simp [go_sem]
  have f3 : ((((W.alloc (Obj.cells #[Value.int IntKind.u64 v] 89)).alloc (Obj.cells #[Value.int IntKind.i64 32] 3)).alloc (Obj.cells #[Value.int IntKind.i64 0, Value.int IntKind.i64 0, Value.int IntKind.i64 0] 150)).alloc (Obj.cells #[Value.int IntKind.i64 0] 25)).frozen? ⟨W.heap.size + 1 + 1, 1, none⟩ = false := by simp [go_sem]
  have f4 : ((((W.alloc (Obj.cells #[Value.int IntKind.u64 v] 89)).alloc (Obj.cells #[Value.int IntKind.i64 32] 3)).alloc (Obj.cells #[Value.int IntKind.i64 0, Value.int IntKind.i64 0, Value.int IntKind.i64 0] 150)).alloc (Obj.cells #[Value.int IntKind.i64 0] 25)).frozen? ⟨W.heap.size + 1 + 1, 2, none⟩ = false := by simp [go_sem]
  have f5 : ((((W.alloc (Obj.cells #[Value.int IntKind.u64 v] 89)).alloc (Obj.cells #[Value.int IntKind.i64 32] 3)).alloc (Obj.cells #[Value.int IntKind.i64 0, Value.int IntKind.i64 0, Value.int IntKind.i64 0] 150)).alloc (Obj.cells #[Value.int IntKind.i64 0] 25)).frozen? ⟨W.heap.size + 1 + 1 + 1, 0, none⟩ = false := by simp [go_sem]
  have z4 : ((((W.alloc (Obj.cells #[Value.int IntKind.u64 v] 89)).alloc (Obj.cells #[Value.int IntKind.i64 32] 3)).alloc (Obj.cells #[Value.int IntKind.i64 0, Value.int IntKind.i64 0, Value.int IntKind.i64 0] 150)).alloc (Obj.cells #[Value.int IntKind.i64 0] 25)).heap.size = W.heap.size + 4 := by simp
  have hB4 : Below W.heap.size W ((((W.alloc (Obj.cells #[Value.int IntKind.u64 v] 89)).alloc (Obj.cells #[Value.int IntKind.i64 32] 3)).alloc (Obj.cells #[Value.int IntKind.i64 0, Value.int IntKind.i64 0, Value.int IntKind.i64 0] 150)).alloc (Obj.cells #[Value.int IntKind.i64 0] 25)) := by go_grown
  gi_wp2
  refine wpIn_scope_wide ?_
  generalize ((((W.alloc (Obj.cells #[Value.int IntKind.u64 v] 89)).alloc (Obj.cells #[Value.int IntKind.i64 32] 3)).alloc (Obj.cells #[Value.int IntKind.i64 0, Value.int IntKind.i64 0, Value.int IntKind.i64 0] 150)).alloc (Obj.cells #[Value.int IntKind.i64 0] 25)) = W4 at *
  gi_wp2

  gi_at_call 147
  refine (callsIn_wide.2 (width_any _ _)).mono ?_
  rintro e wA ⟨rfl, hbA⟩
  rw [e1]
  have d0 := ((bcell hbA).1 _ _ (by omega)).trans c0
  have d1 := ((bcell hbA).1 _ _ (by omega)).trans c1
  have d2 := ((bcell hbA).1 _ _ (by omega)).trans c2
  have d3 := ((bcell hbA).1 _ _ (by omega)).trans c3
  have d4 := ((bcell hbA).1 _ _ (by omega)).trans c4
  have d5 := ((bcell hbA).1 _ _ (by omega)).trans c5
  have g2 := ((bcell hbA).2 _ _ (by omega)).trans f2
  have g3 := ((bcell hbA).2 _ _ (by omega)).trans f3
  have g4 := ((bcell hbA).2 _ _ (by omega)).trans f4
  have g5 := ((bcell hbA).2 _ _ (by omega)).trans f5
  have zA := Nat.le_trans (Nat.le_of_eq z4.symm) hbA.size
  have hBA := bthen hB4 hbA hB4.size
  clear hbA hB4 z4 c0 c1 c2 c3 c4 c5 f2 f3 f4 f5
  gi_wp2
  rw [Exit.noGoto_ret]
  have hR2 := findR_set (p := (0, 0, 0)) (q := (0, 0, 0)) (f := 20) (A := wA) ⟨d2, d3, d4, d5⟩
  simp only [Int.natCast_zero] at hR2
  have hB2 : Below W.heap.size W ((((wA.setCell ⟨W.heap.size + 1 + 1, 0, none⟩ (.int .i64 0)).setCell ⟨W.heap.size + 1 + 1, 1, none⟩ (.int .i64 0)).setCell ⟨W.heap.size + 1 + 1, 2, none⟩ (.int .i64 0)).setCell ⟨W.heap.size + 1 + 1 + 1, 0, none⟩ (.int .i64 20)) := by go_grown
  generalize (((wA.setCell ⟨W.heap.size + 1 + 1, 0, none⟩ (.int .i64 0)).setCell ⟨W.heap.size + 1 + 1, 1, none⟩ (.int .i64 0)).setCell ⟨W.heap.size + 1 + 1, 2, none⟩ (.int .i64 0)).setCell ⟨W.heap.size + 1 + 1 + 1, 0, none⟩ (.int .i64 20) = W2 at *
  obtain ⟨r0, r1, r2, r3⟩ := hR2
  exact ⟨findT (0, 0, 0) 20, by simp [results, Tryz.f170, go_sem, r0, r1, r2, r3, findT], rfl, hB2⟩
set_option maxRecDepth 100000 in
set_option maxHeartbeats 4000000 in
theorem find_bad (v w : Int) (hw : widB w = false) (W : World) :
    CallsIn Fence.wide 4 Tryz.prog 170 #[.int .u64 v, .int .i64 w] W (Ret (findT (0, 0, 0) 1) W) := by
  have e1 := hw
  refine callsIn_of_wp_marks Tryz.func170 rfl trivial ?_ rfl
  simp only [Tryz.ntmps170, List.size_toArray, List.length_cons, List.length_nil, Nat.reduceAdd, Nat.reduceSub, Array.replicate_succ, Array.replicate_zero, List.push_toArray, List.append_toArray, List.nil_append, List.cons_append]
  have c0 : ((((W.alloc (Obj.cells #[Value.int IntKind.u64 v] 89)).alloc (Obj.cells #[Value.int IntKind.i64 w] 3)).alloc (Obj.cells #[Value.int IntKind.i64 0, Value.int IntKind.i64 0, Value.int IntKind.i64 0] 150)).alloc (Obj.cells #[Value.int IntKind.i64 0] 25)).cell? ⟨W.heap.size, 0, none⟩ = some (.int .u64 v) := by simp [go_sem]
  have c1 : ((((W.alloc (Obj.cells #[Value.int IntKind.u64 v] 89)).alloc (Obj.cells #[Value.int IntKind.i64 w] 3)).alloc (Obj.cells #[Value.int IntKind.i64 0, Value.int IntKind.i64 0, Value.int IntKind.i64 0] 150)).alloc (Obj.cells #[Value.int IntKind.i64 0] 25)).cell? ⟨W.heap.size + 1, 0, none⟩ = some (.int .i64 w) := by simp [go_sem]
  have c2 : ((((W.alloc (Obj.cells #[Value.int IntKind.u64 v] 89)).alloc (Obj.cells #[Value.int IntKind.i64 w] 3)).alloc (Obj.cells #[Value.int IntKind.i64 0, Value.int IntKind.i64 0, Value.int IntKind.i64 0] 150)).alloc (Obj.cells #[Value.int IntKind.i64 0] 25)).cell? ⟨W.heap.size + 1 + 1, 0, none⟩ = some (.int .i64 0) := by simp [go_sem]
  have c3 : ((((W.alloc (Obj.cells #[Value.int IntKind.u64 v] 89)).alloc (Obj.cells #[Value.int IntKind.i64 w] 3)).alloc (Obj.cells #[Value.int IntKind.i64 0, Value.int IntKind.i64 0, Value.int IntKind.i64 0] 150)).alloc (Obj.cells #[Value.int IntKind.i64 0] 25)).cell? ⟨W.heap.size + 1 + 1, 1, none⟩ = some (.int .i64 0) := by simp [go_sem]
  have c4 : ((((W.alloc (Obj.cells #[Value.int IntKind.u64 v] 89)).alloc (Obj.cells #[Value.int IntKind.i64 w] 3)).alloc (Obj.cells #[Value.int IntKind.i64 0, Value.int IntKind.i64 0, Value.int IntKind.i64 0] 150)).alloc (Obj.cells #[Value.int IntKind.i64 0] 25)).cell? ⟨W.heap.size + 1 + 1, 2, none⟩ = some (.int .i64 0) := by simp [go_sem]
  have c5 : ((((W.alloc (Obj.cells #[Value.int IntKind.u64 v] 89)).alloc (Obj.cells #[Value.int IntKind.i64 w] 3)).alloc (Obj.cells #[Value.int IntKind.i64 0, Value.int IntKind.i64 0, Value.int IntKind.i64 0] 150)).alloc (Obj.cells #[Value.int IntKind.i64 0] 25)).cell? ⟨W.heap.size + 1 + 1 + 1, 0, none⟩ = some (.int .i64 0) := by simp [go_sem]
  have f2 : ((((W.alloc (Obj.cells #[Value.int IntKind.u64 v] 89)).alloc (Obj.cells #[Value.int IntKind.i64 w] 3)).alloc (Obj.cells #[Value.int IntKind.i64 0, Value.int IntKind.i64 0, Value.int IntKind.i64 0] 150)).alloc (Obj.cells #[Value.int IntKind.i64 0] 25)).frozen? ⟨W.heap.size + 1 + 1, 0, none⟩ = false := by simp [go_sem]
  have f3 : ((((W.alloc (Obj.cells #[Value.int IntKind.u64 v] 89)).alloc (Obj.cells #[Value.int IntKind.i64 w] 3)).alloc (Obj.cells #[Value.int IntKind.i64 0, Value.int IntKind.i64 0, Value.int IntKind.i64 0] 150)).alloc (Obj.cells #[Value.int IntKind.i64 0] 25)).frozen? ⟨W.heap.size + 1 + 1, 1, none⟩ = false := by simp [go_sem]
  have f4 : ((((W.alloc (Obj.cells #[Value.int IntKind.u64 v] 89)).alloc (Obj.cells #[Value.int IntKind.i64 w] 3)).alloc (Obj.cells #[Value.int IntKind.i64 0, Value.int IntKind.i64 0, Value.int IntKind.i64 0] 150)).alloc (Obj.cells #[Value.int IntKind.i64 0] 25)).frozen? ⟨W.heap.size + 1 + 1, 2, none⟩ = false := by simp [go_sem]
  have f5 : ((((W.alloc (Obj.cells #[Value.int IntKind.u64 v] 89)).alloc (Obj.cells #[Value.int IntKind.i64 w] 3)).alloc (Obj.cells #[Value.int IntKind.i64 0, Value.int IntKind.i64 0, Value.int IntKind.i64 0] 150)).alloc (Obj.cells #[Value.int IntKind.i64 0] 25)).frozen? ⟨W.heap.size + 1 + 1 + 1, 0, none⟩ = false := by simp [go_sem]
  have z4 : ((((W.alloc (Obj.cells #[Value.int IntKind.u64 v] 89)).alloc (Obj.cells #[Value.int IntKind.i64 w] 3)).alloc (Obj.cells #[Value.int IntKind.i64 0, Value.int IntKind.i64 0, Value.int IntKind.i64 0] 150)).alloc (Obj.cells #[Value.int IntKind.i64 0] 25)).heap.size = W.heap.size + 4 := by simp
  have hB4 : Below W.heap.size W ((((W.alloc (Obj.cells #[Value.int IntKind.u64 v] 89)).alloc (Obj.cells #[Value.int IntKind.i64 w] 3)).alloc (Obj.cells #[Value.int IntKind.i64 0, Value.int IntKind.i64 0, Value.int IntKind.i64 0] 150)).alloc (Obj.cells #[Value.int IntKind.i64 0] 25)) := by go_grown
  gi_wp2
  refine wpIn_scope_wide ?_
  generalize ((((W.alloc (Obj.cells #[Value.int IntKind.u64 v] 89)).alloc (Obj.cells #[Value.int IntKind.i64 w] 3)).alloc (Obj.cells #[Value.int IntKind.i64 0, Value.int IntKind.i64 0, Value.int IntKind.i64 0] 150)).alloc (Obj.cells #[Value.int IntKind.i64 0] 25)) = W4 at *
  gi_wp2

  gi_at_call 147
  refine (callsIn_wide.2 (width_any _ _)).mono ?_
  rintro e wA ⟨rfl, hbA⟩
  rw [e1]
  have d0 := ((bcell hbA).1 _ _ (by omega)).trans c0
  have d1 := ((bcell hbA).1 _ _ (by omega)).trans c1
  have d2 := ((bcell hbA).1 _ _ (by omega)).trans c2
  have d3 := ((bcell hbA).1 _ _ (by omega)).trans c3
  have d4 := ((bcell hbA).1 _ _ (by omega)).trans c4
  have d5 := ((bcell hbA).1 _ _ (by omega)).trans c5
  have g2 := ((bcell hbA).2 _ _ (by omega)).trans f2
  have g3 := ((bcell hbA).2 _ _ (by omega)).trans f3
  have g4 := ((bcell hbA).2 _ _ (by omega)).trans f4
  have g5 := ((bcell hbA).2 _ _ (by omega)).trans f5
  have zA := Nat.le_trans (Nat.le_of_eq z4.symm) hbA.size
  have hBA := bthen hB4 hbA hB4.size
  clear hbA hB4 z4 c0 c1 c2 c3 c4 c5 f2 f3 f4 f5
  gi_wp2
  rw [Exit.noGoto_ret]
  have hR2 := findR_set (p := (0, 0, 0)) (q := (0, 0, 0)) (f := 1) (A := wA) ⟨d2, d3, d4, d5⟩
  simp only [Int.natCast_zero] at hR2
  have hB2 : Below W.heap.size W ((((wA.setCell ⟨W.heap.size + 1 + 1, 0, none⟩ (.int .i64 0)).setCell ⟨W.heap.size + 1 + 1, 1, none⟩ (.int .i64 0)).setCell ⟨W.heap.size + 1 + 1, 2, none⟩ (.int .i64 0)).setCell ⟨W.heap.size + 1 + 1 + 1, 0, none⟩ (.int .i64 1)) := by go_grown
  generalize (((wA.setCell ⟨W.heap.size + 1 + 1, 0, none⟩ (.int .i64 0)).setCell ⟨W.heap.size + 1 + 1, 1, none⟩ (.int .i64 0)).setCell ⟨W.heap.size + 1 + 1, 2, none⟩ (.int .i64 0)).setCell ⟨W.heap.size + 1 + 1 + 1, 0, none⟩ (.int .i64 1) = W2 at *
  obtain ⟨r0, r1, r2, r3⟩ := hR2
  exact ⟨findT (0, 0, 0) 1, by simp [results, Tryz.f170, go_sem, r0, r1, r2, r3, findT], rfl, hB2⟩
/-- the pattern of a value, and its error, at whatever width -/
noncomputable def patP (v w : Int) : Nat × Nat × Nat := if widB w then patV v.toNat w.toNat else (0, 0, 0)
noncomputable def patErr (v w : Int) : Int := if widB w then patE v.toNat w.toNat else 1
theorem find_any (v w : Int) (hv : U64 v) (W : World) : Calls Tryz.prog 170 #[.int .u64 v, .int .i64 w] W (Ret (findT (patP v w) (patErr v w)) W) := by
  by_cases h : widB w = true
  · have hw : w = 32 ∨ w = 64 := by simpa [widB] using h
    have e1 : patP v w = patV v.toNat w.toNat := if_pos h
    have e2 : patErr v w = patE v.toNat w.toNat := if_pos h
    rw [e1, e2]
    unfold U64 at hv
    by_cases hlt : v.toNat < 2 ^ w.toNat
    · have := find_in v.toNat w.toNat hlt (by omega) W
      rw [Int.toNat_of_nonneg hv.1, Int.toNat_of_nonneg (by omega)] at this
      exact callsIn_wide.1 this
    · rcases hw with rfl | rfl
      · have h32 : (2 : Nat) ^ (32 : Int).toNat = 4294967296 := by decide
        have hno : ¬ HasPat v.toNat (32 : Int).toNat := by
          rintro ⟨⟨s, o, t⟩, h1, h2⟩
          have := valN_lt s o t (32 : Int).toNat
          rw [h2] at this
          exact hlt this
        rw [patV_no hno, show patE v.toNat (32 : Int).toNat = 20 from if_neg hno]
        exact callsIn_wide.1 (find_wide v hv (by omega) W)
      · have h64 : (2 : Nat) ^ (64 : Int).toNat = 18446744073709551616 := by decide
        omega
  · have e1 : patP v w = (0, 0, 0) := if_neg h
    have e2 : patErr v w = 1 := if_neg h
    rw [e1, e2]
    exact callsIn_wide.1 (find_bad v w (by simpa using h) W)
end Go.Proofs.YtopfaapcekiojaaGreat
