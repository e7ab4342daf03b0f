/- Logical immediates: find at whatever value and width; Encode, Pattern, Field. -/
import Derived.Test.YtopfaapcekiojaaGreatLogH
import Derived.Handy
namespace Go.Proofs.YtopfaapcekiojaaGreat
open Go.RowKit Go.Sort Go.Shelf
attribute [local go_sem] Oper.semAt_some cell_gr frozen_gr wide_fn asked_wide
set_option linter.unusedVariables false

set_option maxRecDepth 100000 in
set_option maxHeartbeats 4000000 in
theorem find_wide (v : Int) (hv : U64 v) (hv2 : 4294967296 ≤ v) (W : World) :
    CallsIn Fence.wide 4 Tryz.prog 170 #[.int .u64 v, .int .i64 32] W (Ret (findT (0, 0, 0) 20) W) := by
  have e1 : widB 32 = true := rfl
  refine callsIn_of_wp_marks Tryz.func170 rfl trivial ?_ rfl
  simp only [Tryz.ntmps170, List.size_toArray, List.length_cons, List.length_nil, Nat.reduceAdd, Nat.reduceSub, Array.replicate_succ, Array.replicate_zero, List.push_toArray, List.append_toArray, List.nil_append, List.cons_append]
  have c0 : ((((W.alloc (Obj.cells #[Value.int IntKind.u64 v] 89)).alloc (Obj.cells #[Value.int IntKind.i64 32] 3)).alloc (Obj.cells #[Value.int IntKind.i64 0, Value.int IntKind.i64 0, Value.int IntKind.i64 0] 150)).alloc (Obj.cells #[Value.int IntKind.i64 0] 25)).cell? ⟨W.heap.size, 0, none⟩ = some (.int .u64 v) := by simp [go_sem]
  have c1 : ((((W.alloc (Obj.cells #[Value.int IntKind.u64 v] 89)).alloc (Obj.cells #[Value.int IntKind.i64 32] 3)).alloc (Obj.cells #[Value.int IntKind.i64 0, Value.int IntKind.i64 0, Value.int IntKind.i64 0] 150)).alloc (Obj.cells #[Value.int IntKind.i64 0] 25)).cell? ⟨W.heap.size + 1, 0, none⟩ = some (.int .i64 32) := by simp [go_sem]
  have c2 : ((((W.alloc (Obj.cells #[Value.int IntKind.u64 v] 89)).alloc (Obj.cells #[Value.int IntKind.i64 32] 3)).alloc (Obj.cells #[Value.int IntKind.i64 0, Value.int IntKind.i64 0, Value.int IntKind.i64 0] 150)).alloc (Obj.cells #[Value.int IntKind.i64 0] 25)).cell? ⟨W.heap.size + 1 + 1, 0, none⟩ = some (.int .i64 0) := by simp [go_sem]
  have c3 : ((((W.alloc (Obj.cells #[Value.int IntKind.u64 v] 89)).alloc (Obj.cells #[Value.int IntKind.i64 32] 3)).alloc (Obj.cells #[Value.int IntKind.i64 0, Value.int IntKind.i64 0, Value.int IntKind.i64 0] 150)).alloc (Obj.cells #[Value.int IntKind.i64 0] 25)).cell? ⟨W.heap.size + 1 + 1, 1, none⟩ = some (.int .i64 0) := by simp [go_sem]
  have c4 : ((((W.alloc (Obj.cells #[Value.int IntKind.u64 v] 89)).alloc (Obj.cells #[Value.int IntKind.i64 32] 3)).alloc (Obj.cells #[Value.int IntKind.i64 0, Value.int IntKind.i64 0, Value.int IntKind.i64 0] 150)).alloc (Obj.cells #[Value.int IntKind.i64 0] 25)).cell? ⟨W.heap.size + 1 + 1, 2, none⟩ = some (.int .i64 0) := by simp [go_sem]
  have c5 : ((((W.alloc (Obj.cells #[Value.int IntKind.u64 v] 89)).alloc (Obj.cells #[Value.int IntKind.i64 32] 3)).alloc (Obj.cells #[Value.int IntKind.i64 0, Value.int IntKind.i64 0, Value.int IntKind.i64 0] 150)).alloc (Obj.cells #[Value.int IntKind.i64 0] 25)).cell? ⟨W.heap.size + 1 + 1 + 1, 0, none⟩ = some (.int .i64 0) := by simp [go_sem]
  have f2 : ((((W.alloc (Obj.cells #[Value.int IntKind.u64 v] 89)).alloc (Obj.cells #[Value.int IntKind.i64 32] 3)).alloc (Obj.cells #[Value.int IntKind.i64 0, Value.int IntKind.i64 0, Value.int IntKind.i64 0] 150)).alloc (Obj.cells #[Value.int IntKind.i64 0] 25)).frozen? ⟨W.heap.size + 1 + 1, 0, none⟩ = false := by simp [go_sem]
  have f3 : ((((W.alloc (Obj.cells #[Value.int IntKind.u64 v] 89)).alloc (Obj.cells #[Value.int IntKind.i64 32] 3)).alloc (Obj.cells #[Value.int IntKind.i64 0, Value.int IntKind.i64 0, Value.int IntKind.i64 0] 150)).alloc (Obj.cells #[Value.int IntKind.i64 0] 25)).frozen? ⟨W.heap.size + 1 + 1, 1, none⟩ = false := by simp [go_sem]
  have f4 : ((((W.alloc (Obj.cells #[Value.int IntKind.u64 v] 89)).alloc (Obj.cells #[Value.int IntKind.i64 32] 3)).alloc (Obj.cells #[Value.int IntKind.i64 0, Value.int IntKind.i64 0, Value.int IntKind.i64 0] 150)).alloc (Obj.cells #[Value.int IntKind.i64 0] 25)).frozen? ⟨W.heap.size + 1 + 1, 2, none⟩ = false := by simp [go_sem]
  have f5 : ((((W.alloc (Obj.cells #[Value.int IntKind.u64 v] 89)).alloc (Obj.cells #[Value.int IntKind.i64 32] 3)).alloc (Obj.cells #[Value.int IntKind.i64 0, Value.int IntKind.i64 0, Value.int IntKind.i64 0] 150)).alloc (Obj.cells #[Value.int IntKind.i64 0] 25)).frozen? ⟨W.heap.size + 1 + 1 + 1, 0, none⟩ = false := by simp [go_sem]
  have z4 : ((((W.alloc (Obj.cells #[Value.int IntKind.u64 v] 89)).alloc (Obj.cells #[Value.int IntKind.i64 32] 3)).alloc (Obj.cells #[Value.int IntKind.i64 0, Value.int IntKind.i64 0, Value.int IntKind.i64 0] 150)).alloc (Obj.cells #[Value.int IntKind.i64 0] 25)).heap.size = W.heap.size + 4 := by simp
  have hB4 : Below W.heap.size W ((((W.alloc (Obj.cells #[Value.int IntKind.u64 v] 89)).alloc (Obj.cells #[Value.int IntKind.i64 32] 3)).alloc (Obj.cells #[Value.int IntKind.i64 0, Value.int IntKind.i64 0, Value.int IntKind.i64 0] 150)).alloc (Obj.cells #[Value.int IntKind.i64 0] 25)) := by go_grown
  gi_wp2
  refine wpIn_scope_wide ?_
  generalize ((((W.alloc (Obj.cells #[Value.int IntKind.u64 v] 89)).alloc (Obj.cells #[Value.int IntKind.i64 32] 3)).alloc (Obj.cells #[Value.int IntKind.i64 0, Value.int IntKind.i64 0, Value.int IntKind.i64 0] 150)).alloc (Obj.cells #[Value.int IntKind.i64 0] 25)) = W4 at *
  gi_wp2

  gi_at_call 147
  refine (callsIn_wide.2 (width_any _ _)).mono ?_
  rintro e wA ⟨rfl, hbA⟩
  rw [e1]
  have d0 := ((bcell hbA).1 _ _ (by omega)).trans c0
  have d1 := ((bcell hbA).1 _ _ (by omega)).trans c1
  have d2 := ((bcell hbA).1 _ _ (by omega)).trans c2
  have d3 := ((bcell hbA).1 _ _ (by omega)).trans c3
  have d4 := ((bcell hbA).1 _ _ (by omega)).trans c4
  have d5 := ((bcell hbA).1 _ _ (by omega)).trans c5
  have g2 := ((bcell hbA).2 _ _ (by omega)).trans f2
  have g3 := ((bcell hbA).2 _ _ (by omega)).trans f3
  have g4 := ((bcell hbA).2 _ _ (by omega)).trans f4
  have g5 := ((bcell hbA).2 _ _ (by omega)).trans f5
  have zA := Nat.le_trans (Nat.le_of_eq z4.symm) hbA.size
  have hBA := bthen hB4 hbA hB4.size
  clear hbA hB4 z4 c0 c1 c2 c3 c4 c5 f2 f3 f4 f5
  gi_wp2
  rw [Exit.noGoto_ret]
  have hR2 := findR_set (p := (0, 0, 0)) (q := (0, 0, 0)) (f := 20) (A := wA) ⟨d2, d3, d4, d5⟩
  simp only [Int.natCast_zero] at hR2
  have hB2 : Below W.heap.size W ((((wA.setCell ⟨W.heap.size + 1 + 1, 0, none⟩ (.int .i64 0)).setCell ⟨W.heap.size + 1 + 1, 1, none⟩ (.int .i64 0)).setCell ⟨W.heap.size + 1 + 1, 2, none⟩ (.int .i64 0)).setCell ⟨W.heap.size + 1 + 1 + 1, 0, none⟩ (.int .i64 20)) := by go_grown
  generalize (((wA.setCell ⟨W.heap.size + 1 + 1, 0, none⟩ (.int .i64 0)).setCell ⟨W.heap.size + 1 + 1, 1, none⟩ (.int .i64 0)).setCell ⟨W.heap.size + 1 + 1, 2, none⟩ (.int .i64 0)).setCell ⟨W.heap.size + 1 + 1 + 1, 0, none⟩ (.int .i64 20) = W2 at *
  obtain ⟨r0, r1, r2, r3⟩ := hR2
  exact ⟨findT (0, 0, 0) 20, by simp [results, Tryz.f170, go_sem, r0, r1, r2, r3, findT], rfl, hB2⟩
set_option maxRecDepth 100000 in
set_option maxHeartbeats 4000000 in
theorem find_bad (v w : Int) (hw : widB w = false) (W : World) :
    CallsIn Fence.wide 4 Tryz.prog 170 #[.int .u64 v, .int .i64 w] W (Ret (findT (0, 0, 0) 1) W) := by
  have e1 := hw
  refine callsIn_of_wp_marks Tryz.func170 rfl trivial ?_ rfl
  simp only [Tryz.ntmps170, List.size_toArray, List.length_cons, List.length_nil, Nat.reduceAdd, Nat.reduceSub, Array.replicate_succ, Array.replicate_zero, List.push_toArray, List.append_toArray, List.nil_append, List.cons_append]
  have c0 : ((((W.alloc (Obj.cells #[Value.int IntKind.u64 v] 89)).alloc (Obj.cells #[Value.int IntKind.i64 w] 3)).alloc (Obj.cells #[Value.int IntKind.i64 0, Value.int IntKind.i64 0, Value.int IntKind.i64 0] 150)).alloc (Obj.cells #[Value.int IntKind.i64 0] 25)).cell? ⟨W.heap.size, 0, none⟩ = some (.int .u64 v) := by simp [go_sem]
  have c1 : ((((W.alloc (Obj.cells #[Value.int IntKind.u64 v] 89)).alloc (Obj.cells #[Value.int IntKind.i64 w] 3)).alloc (Obj.cells #[Value.int IntKind.i64 0, Value.int IntKind.i64 0, Value.int IntKind.i64 0] 150)).alloc (Obj.cells #[Value.int IntKind.i64 0] 25)).cell? ⟨W.heap.size + 1, 0, none⟩ = some (.int .i64 w) := by simp [go_sem]
  have c2 : ((((W.alloc (Obj.cells #[Value.int IntKind.u64 v] 89)).alloc (Obj.cells #[Value.int IntKind.i64 w] 3)).alloc (Obj.cells #[Value.int IntKind.i64 0, Value.int IntKind.i64 0, Value.int IntKind.i64 0] 150)).alloc (Obj.cells #[Value.int IntKind.i64 0] 25)).cell? ⟨W.heap.size + 1 + 1, 0, none⟩ = some (.int .i64 0) := by simp [go_sem]
  have c3 : ((((W.alloc (Obj.cells #[Value.int IntKind.u64 v] 89)).alloc (Obj.cells #[Value.int IntKind.i64 w] 3)).alloc (Obj.cells #[Value.int IntKind.i64 0, Value.int IntKind.i64 0, Value.int IntKind.i64 0] 150)).alloc (Obj.cells #[Value.int IntKind.i64 0] 25)).cell? ⟨W.heap.size + 1 + 1, 1, none⟩ = some (.int .i64 0) := by simp [go_sem]
  have c4 : ((((W.alloc (Obj.cells #[Value.int IntKind.u64 v] 89)).alloc (Obj.cells #[Value.int IntKind.i64 w] 3)).alloc (Obj.cells #[Value.int IntKind.i64 0, Value.int IntKind.i64 0, Value.int IntKind.i64 0] 150)).alloc (Obj.cells #[Value.int IntKind.i64 0] 25)).cell? ⟨W.heap.size + 1 + 1, 2, none⟩ = some (.int .i64 0) := by simp [go_sem]
  have c5 : ((((W.alloc (Obj.cells #[Value.int IntKind.u64 v] 89)).alloc (Obj.cells #[Value.int IntKind.i64 w] 3)).alloc (Obj.cells #[Value.int IntKind.i64 0, Value.int IntKind.i64 0, Value.int IntKind.i64 0] 150)).alloc (Obj.cells #[Value.int IntKind.i64 0] 25)).cell? ⟨W.heap.size + 1 + 1 + 1, 0, none⟩ = some (.int .i64 0) := by simp [go_sem]
  have f2 : ((((W.alloc (Obj.cells #[Value.int IntKind.u64 v] 89)).alloc (Obj.cells #[Value.int IntKind.i64 w] 3)).alloc (Obj.cells #[Value.int IntKind.i64 0, Value.int IntKind.i64 0, Value.int IntKind.i64 0] 150)).alloc (Obj.cells #[Value.int IntKind.i64 0] 25)).frozen? ⟨W.heap.size + 1 + 1, 0, none⟩ = false := by simp [go_sem]
  have f3 : ((((W.alloc (Obj.cells #[Value.int IntKind.u64 v] 89)).alloc (Obj.cells #[Value.int IntKind.i64 w] 3)).alloc (Obj.cells #[Value.int IntKind.i64 0, Value.int IntKind.i64 0, Value.int IntKind.i64 0] 150)).alloc (Obj.cells #[Value.int IntKind.i64 0] 25)).frozen? ⟨W.heap.size + 1 + 1, 1, none⟩ = false := by simp [go_sem]
  have f4 : ((((W.alloc (Obj.cells #[Value.int IntKind.u64 v] 89)).alloc (Obj.cells #[Value.int IntKind.i64 w] 3)).alloc (Obj.cells #[Value.int IntKind.i64 0, Value.int IntKind.i64 0, Value.int IntKind.i64 0] 150)).alloc (Obj.cells #[Value.int IntKind.i64 0] 25)).frozen? ⟨W.heap.size + 1 + 1, 2, none⟩ = false := by simp [go_sem]
  have f5 : ((((W.alloc (Obj.cells #[Value.int IntKind.u64 v] 89)).alloc (Obj.cells #[Value.int IntKind.i64 w] 3)).alloc (Obj.cells #[Value.int IntKind.i64 0, Value.int IntKind.i64 0, Value.int IntKind.i64 0] 150)).alloc (Obj.cells #[Value.int IntKind.i64 0] 25)).frozen? ⟨W.heap.size + 1 + 1 + 1, 0, none⟩ = false := by simp [go_sem]
  have z4 : ((((W.alloc (Obj.cells #[Value.int IntKind.u64 v] 89)).alloc (Obj.cells #[Value.int IntKind.i64 w] 3)).alloc (Obj.cells #[Value.int IntKind.i64 0, Value.int IntKind.i64 0, Value.int IntKind.i64 0] 150)).alloc (Obj.cells #[Value.int IntKind.i64 0] 25)).heap.size = W.heap.size + 4 := by simp
  have hB4 : Below W.heap.size W ((((W.alloc (Obj.cells #[Value.int IntKind.u64 v] 89)).alloc (Obj.cells #[Value.int IntKind.i64 w] 3)).alloc (Obj.cells #[Value.int IntKind.i64 0, Value.int IntKind.i64 0, Value.int IntKind.i64 0] 150)).alloc (Obj.cells #[Value.int IntKind.i64 0] 25)) := by go_grown
  gi_wp2
  refine wpIn_scope_wide ?_
  generalize ((((W.alloc (Obj.cells #[Value.int IntKind.u64 v] 89)).alloc (Obj.cells #[Value.int IntKind.i64 w] 3)).alloc (Obj.cells #[Value.int IntKind.i64 0, Value.int IntKind.i64 0, Value.int IntKind.i64 0] 150)).alloc (Obj.cells #[Value.int IntKind.i64 0] 25)) = W4 at *
  gi_wp2

  gi_at_call 147
  refine (callsIn_wide.2 (width_any _ _)).mono ?_
  rintro e wA ⟨rfl, hbA⟩
  rw [e1]
  have d0 := ((bcell hbA).1 _ _ (by omega)).trans c0
  have d1 := ((bcell hbA).1 _ _ (by omega)).trans c1
  have d2 := ((bcell hbA).1 _ _ (by omega)).trans c2
  have d3 := ((bcell hbA).1 _ _ (by omega)).trans c3
  have d4 := ((bcell hbA).1 _ _ (by omega)).trans c4
  have d5 := ((bcell hbA).1 _ _ (by omega)).trans c5
  have g2 := ((bcell hbA).2 _ _ (by omega)).trans f2
  have g3 := ((bcell hbA).2 _ _ (by omega)).trans f3
  have g4 := ((bcell hbA).2 _ _ (by omega)).trans f4
  have g5 := ((bcell hbA).2 _ _ (by omega)).trans f5
  have zA := Nat.le_trans (Nat.le_of_eq z4.symm) hbA.size
  have hBA := bthen hB4 hbA hB4.size
  clear hbA hB4 z4 c0 c1 c2 c3 c4 c5 f2 f3 f4 f5
  gi_wp2
  rw [Exit.noGoto_ret]
  have hR2 := findR_set (p := (0, 0, 0)) (q := (0, 0, 0)) (f := 1) (A := wA) ⟨d2, d3, d4, d5⟩
  simp only [Int.natCast_zero] at hR2
  have hB2 : Below W.heap.size W ((((wA.setCell ⟨W.heap.size + 1 + 1, 0, none⟩ (.int .i64 0)).setCell ⟨W.heap.size + 1 + 1, 1, none⟩ (.int .i64 0)).setCell ⟨W.heap.size + 1 + 1, 2, none⟩ (.int .i64 0)).setCell ⟨W.heap.size + 1 + 1 + 1, 0, none⟩ (.int .i64 1)) := by go_grown
  generalize (((wA.setCell ⟨W.heap.size + 1 + 1, 0, none⟩ (.int .i64 0)).setCell ⟨W.heap.size + 1 + 1, 1, none⟩ (.int .i64 0)).setCell ⟨W.heap.size + 1 + 1, 2, none⟩ (.int .i64 0)).setCell ⟨W.heap.size + 1 + 1 + 1, 0, none⟩ (.int .i64 1) = W2 at *
  obtain ⟨r0, r1, r2, r3⟩ := hR2
  exact ⟨findT (0, 0, 0) 1, by simp [results, Tryz.f170, go_sem, r0, r1, r2, r3, findT], rfl, hB2⟩
/-- the pattern of a value, and its error, at whatever width -/
noncomputable def patP (v w : Int) : Nat × Nat × Nat := if widB w then patV v.toNat w.toNat else (0, 0, 0)
noncomputable def patErr (v w : Int) : Int := if widB w then patE v.toNat w.toNat else 1
theorem find_any (v w : Int) (hv : U64 v) (W : World) : Calls Tryz.prog 170 #[.int .u64 v, .int .i64 w] W (Ret (findT (patP v w) (patErr v w)) W) := by
  by_cases h : widB w = true
  · have hw : w = 32 ∨ w = 64 := by simpa [widB] using h
    have e1 : patP v w = patV v.toNat w.toNat := if_pos h
    have e2 : patErr v w = patE v.toNat w.toNat := if_pos h
    rw [e1, e2]
    unfold U64 at hv
    by_cases hlt : v.toNat < 2 ^ w.toNat
    · have := find_in v.toNat w.toNat hlt (by omega) W
      rw [Int.toNat_of_nonneg hv.1, Int.toNat_of_nonneg (by omega)] at this
      exact callsIn_wide.1 this
    · rcases hw with rfl | rfl
      · have h32 : (2 : Nat) ^ (32 : Int).toNat = 4294967296 := by decide
        have hno : ¬ HasPat v.toNat (32 : Int).toNat := by
          rintro ⟨⟨s, o, t⟩, h1, h2⟩
          have := valN_lt s o t (32 : Int).toNat
          rw [h2] at this
          exact hlt this
        rw [patV_no hno, show patE v.toNat (32 : Int).toNat = 20 from if_neg hno]
        exact callsIn_wide.1 (find_wide v hv (by omega) W)
      · have h64 : (2 : Nat) ^ (64 : Int).toNat = 18446744073709551616 := by decide
        omega
  · have e1 : patP v w = (0, 0, 0) := if_neg h
    have e2 : patErr v w = 1 := if_neg h
    rw [e1, e2]
    exact callsIn_wide.1 (find_bad v w (by simpa using h) W)
end Go.Proofs.YtopfaapcekiojaaGreat

/- Logical immediates: Encode, Pattern, Field. -/
namespace Go.Proofs.YtopfaapcekiojaaGreat
open Go.RowKit Go.Sort
attribute [local go_sem] cell_gr frozen_gr
set_option linter.unusedVariables false

theorem patErr_cases (v w : Int) : (patErr v w = 0 ∧ (w = 32 ∨ w = 64) ∧ IsPat v.toNat w.toNat (patP v w).1 (patP v w).2.1 (patP v w).2.2) ∨ ((patErr v w = 1 ∨ patErr v w = 20) ∧ patP v w = (0, 0, 0)) := by
  unfold patErr patP patE
  by_cases h : widB w = true
  · rw [if_pos h, if_pos h]
    by_cases hp : HasPat v.toNat w.toNat
    · rw [if_pos hp]
      exact .inl ⟨rfl, by simpa [widB] using h, patV_spec hp⟩
    · rw [if_neg hp, patV_no hp]
      exact .inr ⟨.inr rfl, rfl⟩
  · rw [if_neg h, if_neg h]
    exact .inr ⟨.inl rfl, rfl⟩
/-- N, immr, imms of a value -/
noncomputable def encN (v w : Int) : Int := if (patP v w).1 = 64 then 1 else 0
noncomputable def encR (v w : Int) : Int := (patP v w).2.2
noncomputable def encM (v w : Int) : Int := if patErr v w = 0 then topI (patP v w).1 + (patP v w).2.1 - 1 else 0
theorem enc_bounds (v w : Int) : (encN v w = 0 ∨ encN v w = 1) ∧ 0 ≤ encR v w ∧ encR v w < 64 ∧ 0 ≤ encM v w ∧ encM v w < 64 := by
  have hn : encN v w = 0 ∨ encN v w = 1 := by unfold encN; split <;> omega
  refine ⟨hn, ?_⟩
  rcases patErr_cases v w with ⟨h0, hw, ⟨p1, p2, p3, p4, p5⟩, _⟩ | ⟨he, hp⟩
  · unfold encR encM topI
    rw [if_pos h0]
    unfold Sz at p1
    generalize (patP v w).1 = s at *
    generalize (patP v w).2.1 = o at *
    generalize (patP v w).2.2 = t at *
    have : w.toNat = 32 ∨ w.toNat = 64 := by omega
    refine ⟨by omega, by omega, ?_⟩
    split <;> omega
  · unfold encR encM
    rw [hp, if_neg (by omega)]
    decide
theorem enc_none {v w : Int} (h : patErr v w ≠ 0) : encN v w = 0 ∧ encR v w = 0 ∧ encM v w = 0 := by
  rcases patErr_cases v w with ⟨h0, _⟩ | ⟨he, hp⟩
  · exact absurd h0 h
  · unfold encN encR encM
    rw [hp, if_neg h]
    exact ⟨rfl, rfl, rfl⟩
theorem parts_any (s o t : Nat) (hs : s ≤ 64) (ho : o ≤ 64) (W : World) : Calls Tryz.prog 171 #[.agg #[.int .i64 s, .int .i64 o, .int .i64 t]] W (Ret (.tuple #[.int .i64 (if s = 64 then 1 else 0), .int .i64 t, .int .i64 (topI (s : Int) + (o : Int) - 1)]) W) := by
  have ht : topI (s : Int) = if 32 ≤ (s : Int) then 0 else 64 - 2 * (s : Int) := rfl
  have hb : 0 ≤ topI (s : Int) ∧ topI (s : Int) ≤ 64 := by rw [ht]; split <;> omega
  have ha := Lib.hid (fun W => above_any s o t W (by omega) (by omega))
  by_cases h : s = 64
  · have b : ((s : Int) == 64) = true := by simp [h]
    rw [if_pos h]
    clear h ht
    generalize topI (s : Int) = q at *
    go_enter Tryz.func171, Tryz.ntmps171
    go_wp2
    refine wp_region_quiet_below (by kernel_rfl) (by kernel_rfl) ?_
    repeat (go_big_quiet_step (exact gr (ha.out _)))
    refine wpQuiet_nil ?_
    intro w2 hw2
    have hB := bone (of_gr hw2)
    clear hw2
    go_wp2
    go_returns
    exact ⟨by simp, hB⟩
  · have b : ((s : Int) == 64) = false := beq_false_of_ne (by omega)
    rw [if_neg h]
    clear h ht
    generalize topI (s : Int) = q at *
    go_enter Tryz.func171, Tryz.ntmps171
    go_wp2
    refine wp_region_quiet_below (by kernel_rfl) (by kernel_rfl) ?_
    repeat (go_big_quiet_step (exact gr (ha.out _)))
    refine wpQuiet_nil ?_
    intro w2 hw2
    have hB := bone (of_gr hw2)
    clear hw2
    go_wp2
    go_returns
    exact ⟨by simp, hB⟩
/-- a pattern that find gives -/
theorem patP_bounds (v w : Int) : (patP v w).1 ≤ 64 ∧ (patP v w).2.1 ≤ 64 ∧ (patP v w).2.2 ≤ 64 := by
  rcases patErr_cases v w with ⟨h0, hw, ⟨p1, p2, p3, p4, p5⟩, _⟩ | ⟨he, hp⟩
  · unfold Sz at p1; omega
  · rw [hp]; decide
theorem encode_any (v w : Int) (hv : U64 v) (W : World) : Calls Tryz.prog 161 #[.int .u64 v, .int .i64 w] W (Ret (.tuple #[.int .i64 (encN v w), .int .i64 (encR v w), .int .i64 (encM v w), .int .i64 (patErr v w)]) W) := by
  have hf := Lib.hid (find_any v w hv)
  unfold findT at hf
  obtain ⟨h1, h2, h3⟩ := patP_bounds v w
  have hp := Lib.hid (parts_any (patP v w).1 (patP v w).2.1 (patP v w).2.2 h1 h2)
  by_cases he : patErr v w = 0
  · have e1 : (if (patP v w).1 = 64 then (1 : Int) else 0) = encN v w := rfl
    have e2 : topI ((patP v w).1 : Int) + ((patP v w).2.1 : Int) - 1 = encM v w := (if_pos he).symm
    have e3 : (((patP v w).2.2 : Nat) : Int) = encR v w := rfl
    rw [e1, e2, e3] at hp
    rw [he, e3] at hf
    rw [he]
    clear e1 e2 e3 he h3
    generalize encN v w = a at *
    generalize encR v w = b at *
    generalize encM v w = c at *
    generalize (patP v w).1 = s at *
    generalize (patP v w).2.1 = o at *
    go_enter Tryz.func161, Tryz.ntmps161
    go_wp2_with (first
      | (go_at_call 170; refine (hf.out _).mono ?_; rintro e wA ⟨rfl, hbA⟩)
      | (go_at_call 171; refine (hp.out _).mono ?_; rintro e wB ⟨rfl, hbB⟩; have hB := bthen hbA (bone hbB) hbA.size))
    go_returns
    exact ⟨by simp, hB⟩
  · obtain ⟨e1, e2, e3⟩ := enc_none he
    rw [e1, e2, e3]
    have b : (patErr v w != 0) = true := by simpa using he
    generalize (patP v w).1 = s at *
    generalize (patP v w).2.1 = o at *
    generalize (patP v w).2.2 = q at *
    generalize patErr v w = er at *
    clear e1 e2 e3 hp h1 h2 h3 he
    go_enter Tryz.func161, Tryz.ntmps161
    go_wp2_with (first
      | (go_at_call 170; refine (hf.out _).mono ?_; rintro e wA ⟨rfl, hbA⟩))
    go_returns
    exact ⟨by simp, hbA.alloc hbA.size _⟩
/-- the field of a value -/
noncomputable def encF (v w : Int) : Int := encN v w * 4096 + encR v w * 64 + encM v w
theorem join_fact (n r m : Int) (hn : n = 0 ∨ n = 1) (h1 : 0 ≤ r) (h2 : r < 64) (h3 : 0 ≤ m) (h4 : m < 64) : bits BinOp.or IntKind.i64 (bits BinOp.or IntKind.i64 (n * 4096) (r * 64)) m = n * 4096 + r * 64 + m := by
  have hk : ∀ x : Int, 0 ≤ x → x < 2 ^ 63 → IntKind.i64.wrap x = x := fun x a b => by
    rw [show (2 : Int) ^ 63 = 9223372036854775808 by decide] at b
    rw [IntKind.wrap_i64]; omega
  have e1 : bits BinOp.or IntKind.i64 (n * 4096) (r * 64) = n * 4096 + r * 64 :=
    bits_join .i64 63 (by decide) hk 12 _ _ (by omega) (by rw [show (2 : Int) ^ 12 = 4096 by decide]; omega) (by rw [show (2 : Int) ^ 63 = 9223372036854775808 by decide]; omega) (by omega) (by rw [show (2 : Int) ^ 12 = 4096 by decide]; omega) (by rw [show (2 : Int) ^ 63 = 9223372036854775808 by decide]; omega)
  rw [e1]
  exact bits_join .i64 63 (by decide) hk 6 _ _ (by omega) (by rw [show (2 : Int) ^ 6 = 64 by decide]; omega) (by rw [show (2 : Int) ^ 63 = 9223372036854775808 by decide]; omega) (by omega) (by rw [show (2 : Int) ^ 6 = 64 by decide]; omega) (by rw [show (2 : Int) ^ 63 = 9223372036854775808 by decide]; omega)
theorem field_any (v w : Int) (hv : U64 v) (W : World) : Calls Tryz.prog 138 #[.int .u64 v, .int .i64 w] W (Ret (.tuple #[.int .i64 (encF v w), .int .i64 (patErr v w)]) W) := by
  have he := Lib.hid (encode_any v w hv)
  obtain ⟨hn, h1, h2, h3, h4⟩ := enc_bounds v w
  have hj := join_fact _ _ _ hn h1 h2 h3 h4
  have hq : encF v w = encN v w * 4096 + encR v w * 64 + encM v w := rfl
  rw [← hq] at hj
  clear hq
  generalize encF v w = f at *
  generalize encN v w = n at *
  generalize encR v w = r at *
  generalize encM v w = m at *
  generalize patErr v w = er at *
  go_enter Tryz.func138, Tryz.ntmps138
  go_wp2_with (first
    | (go_at_call 161; refine (he.out _).mono ?_; rintro e wA ⟨rfl, hbA⟩))
  go_returns
  exact ⟨by simp, hbA⟩
end Go.Proofs.YtopfaapcekiojaaGreat

/- Logical immediates, the document's answer: Pattern, Encode, Field. -/
namespace Go.Proofs.YtopfaapcekiojaaGreat
open Go.RowKit Go.Sort
attribute [local go_sem] cell_gr frozen_gr
set_option linter.unusedVariables false

theorem pat_cnt {v w s o t : Nat} (h : IsPat v w s o t) : cnt (fun i => v.testBit i) s = o := by
  obtain ⟨⟨p1, p2, p3, p4, p5⟩, rfl⟩ := h
  have e : cnt (fun i => (valN s o t w).testBit i) s = cnt (fun i => decide ((i + t) % s < o)) s := cnt_congr s (fun i hi => by
    have : i < w := by omega
    simp [valN, natOf_bit, this, oneAt_eq])
  rw [e, cnt_turn s o (by omega) (by omega)]
theorem no_size {v w z : Nat} (hc : cnt (fun i => v.testBit i) z < 1 ∨ z ≤ cnt (fun i => v.testBit i) z) (o t : Nat) : ¬ IsPat v w z o t := fun h => by
  have := pat_cnt h
  obtain ⟨⟨p1, p2, p3, p4, p5⟩, _⟩ := h
  omega
theorem next_size {v w z : Nat} (hz : Sz z) (h : ∀ s o t, IsPat v w s o t → z ≤ s) (hn : ∀ o t, ¬ IsPat v w z o t) : ∀ s o t, IsPat v w s o t → z * 2 ≤ s := fun s o t hp => by
  have h1 := h s o t hp
  have h2 : s ≠ z := fun e => by subst e; exact hn o t hp
  have h3 := hp.1.1
  unfold Sz at h3 hz
  omega
theorem step_fact (v n : Nat) (hn : n < 64) : wrap64 (((cnt (fun i => v.testBit i) n : Nat) : Int) + wrap64 (((v : Int) / 2 ^ n).tmod 2)) = ((cnt (fun i => v.testBit i) (n + 1) : Nat) : Int) := by
  have e : (v : Int) / 2 ^ n = ((v / 2 ^ n : Nat) : Int) := by rw [ipow, Int.natCast_ediv]
  have h1 := cnt_le (fun i => v.testBit i) n
  rw [e, Int.tmod_eq_emod_of_nonneg (Int.natCast_nonneg _), cnt]
  have h2 : (if v.testBit n then 1 else 0) = v / 2 ^ n % 2 := by
    rw [Nat.testBit_eq_decide_div_mod_eq]
    have := Nat.mod_two_eq_zero_or_one (v / 2 ^ n)
    rcases this with h | h <;> simp [h]
  rw [h2]
  generalize v / 2 ^ n = q at *
  generalize cnt (fun i => v.testBit i) n = c at *
  unfold wrap64
  omega
set_option maxHeartbeats 4000000 in
theorem rpattern_nat (v w : Nat) (hv : v < 18446744073709551616) (hw : w = 32 ∨ w = 64) (W : World) : Calls Tryz.prog 164 #[.int .u64 v, .int .i64 w] W (Ret (.tuple #[.int .i64 (patV v w).1, .int .i64 (patV v w).2.1, .int .i64 (patV v w).2.2, .int .i64 (patE v w)]) W) := by
  have e1 : widB w = true := by simp [widB]; omega
  generalize hV : Value.tuple #[.int .i64 (patV v w).1, .int .i64 (patV v w).2.1, .int .i64 (patV v w).2.2, .int .i64 (patE v w)] = V
  obtain ⟨c, hc⟩ : ∃ c : Nat → Nat, ∀ n, cnt (fun i => v.testBit i) n = c n := ⟨_, fun _ => rfl⟩
  replace hc := Lib.hid hc
  go_enter Tryz.func164, Tryz.ntmps164
  go_wp2_with (first
          | (go_at_call 139; refine (bad_any _ _).mono ?_; rintro e wA ⟨rfl, hbA⟩; rw [e1]))
  go_loopw [8] (fun s wr => Below W.heap.size W wr ∧ ∃ z : Nat, (Sz z ∨ z = 128) ∧ s = .int .i64 z ∧ Hid (∀ s o t, IsPat v w s o t → z ≤ s)) (fun s _ => (130 - intOf s).toNat)
  case atStart => exact ⟨hbA, 2, .inl (.inl rfl), rfl, Lib.hid fun s o t h => by have := h.1.1; unfold Sz at this; omega⟩
  case round =>
    obtain ⟨hB0, z, hz, rfl, hl⟩ := hrel
    by_cases hzw : z ≤ w
    · have hz1 : Sz z := by rcases hz with h | h; exact h; omega
      have hz64 : z ≤ 64 := by omega
      have hz2 : 2 ≤ z := by unfold Sz at hz1; omega
      have hnx := Lib.hid (next_size (v := v) (w := w) hz1 hl.out)
      have hsz2 : Sz (z * 2) ∨ z * 2 = 128 := by unfold Sz at hz1 ⊢; omega
      clear hz
      go_wp2
      go_loop [9, 10] (fun o i => ∃ n : Nat, n ≤ z ∧ i = .int .i64 n ∧ o = .int .i64 (c n)) (fun _ i => (z - intOf i).toNat)
      case atStart => exact ⟨0, by omega, rfl, by rw [← hc.out]; rfl⟩
      case round =>
        obtain ⟨n, hn, rfl, rfl⟩ := hrel
        by_cases hlt : n < z
        · have hst := step_fact v n (by omega)
          rw [hc.out, hc.out] at hst
          go_wp2
          go_round
          case rel => exact ⟨n + 1, by omega, by simp, by rw [hst]⟩
          case measure => simp [intOf]; omega
        · obtain rfl : n = z := by omega
          have hco := hc.out n
          by_cases ho1 : c n < 1
          · have hno := hnx.out (no_size (by omega))
            clear hco
            go_wp2
            exact ⟨⟨hB0, n * 2, hsz2, by simp, Lib.hid hno⟩, by simp [intOf]; omega⟩
          · by_cases ho2 : n ≤ c n
            · have hno := hnx.out (no_size (by omega))
              clear hco
              go_wp2
              exact ⟨⟨hB0, n * 2, hsz2, by simp, Lib.hid hno⟩, by simp [intOf]; omega⟩
            · clear hco
              go_wp2
              go_loopw [11] (fun s w2 => Below W.heap.size W w2 ∧ ∃ t : Nat, t ≤ n ∧ s = .int .i64 t ∧ Hid (∀ t', t' < t → ¬ IsPat v w n (c n) t')) (fun s _ => (n - intOf s).toNat)
              case atStart => exact ⟨hB0, 0, by omega, rfl, Lib.hid fun t' h => by omega⟩
              case round =>
                obtain ⟨hB1, t, htn, rfl, hno⟩ := hrel
                by_cases hlt2 : t < n
                · have hP : Pat n (c n) t w := ⟨hz1, hzw, by omega, by omega, hlt2⟩
                  have hval := Lib.hid (rvalue_any n (c n) t w hP hw)
                  by_cases hev : valN n (c n) t w = v
                  · have hp1 : patV v w = (n, c n, t) := patV_is hw ⟨hP, hev⟩
                    have hp2 : patE v w = 0 := if_pos ⟨(n, c n, t), hP, hev⟩
                    rw [hev] at hval
                    rw [hp1, hp2] at hV
                    go_wp2_with (go_at_call 163; refine (hval.out _).mono ?_; rintro e wB ⟨rfl, hbB⟩; have hB2 := bthen hB1 hbB hB1.size)
                    go_returns
                    exact ⟨by simp [← hV], hB2⟩
                  · have hnp : ¬ IsPat v w n (c n) t := fun h => hev h.2
                    have b2 : (((valN n (c n) t w : Nat) : Int) == (v : Int)) = false := beq_false_of_ne (by omega)
                    generalize valN n (c n) t w = vv at *
                    go_wp2_with (go_at_call 163; refine (hval.out _).mono ?_; rintro e wB ⟨rfl, hbB⟩; have hB2 := bthen hB1 hbB hB1.size)
                    go_roundw
                    case rel => exact ⟨hB2, t + 1, by omega, by simp, Lib.hid fun t' h1 h2 => by
                      by_cases h3 : t' < t
                      · exact hno.out t' h3 h2
                      · obtain rfl : t' = t := by omega
                        exact hnp h2⟩
                    case measure => simp [intOf]; omega
                · obtain rfl : t = n := by omega
                  have hnot := hnx.out (fun o' t' h => by
                    have e := pat_cnt h
                    rw [hc.out] at e
                    subst e
                    exact hno.out t' h.1.2.2.2.2 h)
                  replace hnot := Lib.hid hnot
                  go_wp2
                  exact ⟨⟨hB1, t * 2, hsz2, by simp, hnot⟩, by simp [intOf]; omega⟩
    · have hno : ¬ HasPat v w := by
        rintro ⟨⟨s, o, t⟩, h⟩
        have h1 := hl.out s o t h
        have := h.1.2.1
        dsimp only at this
        omega
      have hp1 : patV v w = (0, 0, 0) := patV_no hno
      have hp2 : patE v w = 20 := if_neg hno
      rw [hp1, hp2] at hV
      go_wp2
      go_returns
      exact ⟨by simp [← hV], hB0⟩
theorem rpattern_any (v w : Int) (hv : U64 v) (W : World) : Calls Tryz.prog 164 #[.int .u64 v, .int .i64 w] W (Ret (.tuple #[.int .i64 (patP v w).1, .int .i64 (patP v w).2.1, .int .i64 (patP v w).2.2, .int .i64 (patErr v w)]) W) := by
  by_cases h : widB w = true
  · have hw : w = 32 ∨ w = 64 := by simpa [widB] using h
    have e1 : patP v w = patV v.toNat w.toNat := if_pos h
    have e2 : patErr v w = patE v.toNat w.toNat := if_pos h
    rw [e1, e2]
    unfold U64 at hv
    have := rpattern_nat v.toNat w.toNat (by omega) (by omega) W
    rw [Int.toNat_of_nonneg hv.1, Int.toNat_of_nonneg (by omega)] at this
    exact this
  · have e1 : patP v w = (0, 0, 0) := if_neg h
    have e2 : patErr v w = 1 := if_neg h
    have h0 : widB w = false := by simpa using h
    rw [e1, e2]
    clear h e1 e2
    dsimp only
    simp only [Int.natCast_zero]
    go_enter Tryz.func164, Tryz.ntmps164
    go_wp2_with (first
          | (go_at_call 139; refine (bad_any _ _).mono ?_; rintro e wA ⟨rfl, hbA⟩; rw [h0]))
    go_returns
    exact ⟨by simp, hbA⟩
theorem rencode_any (v w : Int) (hv : U64 v) (W : World) : Calls Tryz.prog 142 #[.int .u64 v, .int .i64 w] W (Ret (.tuple #[.int .i64 (encN v w), .int .i64 (encR v w), .int .i64 (encM v w), .int .i64 (patErr v w)]) W) := by
  have hf := Lib.hid (rpattern_any v w hv)
  have hcs := patErr_cases v w
  by_cases he : patErr v w = 0
  · have e2 : topI ((patP v w).1 : Int) + ((patP v w).2.1 : Int) - 1 = encM v w := (if_pos he).symm
    have e3 : (((patP v w).2.2 : Nat) : Int) = encR v w := rfl
    have hsz : Sz (patP v w).1 ∧ (patP v w).2.1 ≤ 64 := by
      rcases hcs with ⟨_, hw, ⟨p1, p2, p3, p4, p5⟩, _⟩ | ⟨h, _⟩
      · have := p1; unfold Sz at this; exact ⟨p1, by omega⟩
      · omega
    rw [he, e3] at hf
    rw [he]
    have htop : topI ((patP v w).1 : Int) = if 32 ≤ ((patP v w).1 : Int) then 0 else 64 - 2 * ((patP v w).1 : Int) := rfl
    have htb : 0 ≤ topI ((patP v w).1 : Int) ∧ topI ((patP v w).1 : Int) ≤ 64 := by rw [htop]; split <;> omega
    have ht := Lib.hid (top_any ((patP v w).1 : Int) (by have := hsz.1; unfold Sz at this; unfold Sz1; omega))
    obtain ⟨hsz1, ho⟩ := hsz
    by_cases h64 : (patP v w).1 = 64
    · have e1 : encN v w = 1 := if_pos h64
      have b : ((((patP v w).1 : Nat) : Int) == 64) = true := by simp [h64]
      rw [e1]
      clear e1 e3 he h64 hcs hsz1 htop
      generalize topI ((patP v w).1 : Int) = tp at *
      generalize encR v w = r at *
      generalize encM v w = m at *
      generalize (patP v w).1 = s at *
      generalize (patP v w).2.1 = o at *
      go_enter Tryz.func142, Tryz.ntmps142
      go_wp2_with (first
        | (go_at_call 164; refine (hf.out _).mono ?_; rintro e wA ⟨rfl, hbA⟩)
        | (go_at_call 162; refine (ht.out _).mono ?_; rintro e wB ⟨rfl, hbB⟩; have hB := bthen hbA hbB hbA.size))
      go_returns
      exact ⟨by simp, hB⟩
    · have e1 : encN v w = 0 := if_neg h64
      have b : ((((patP v w).1 : Nat) : Int) == 64) = false := beq_false_of_ne (by omega)
      rw [e1]
      clear e1 e3 he h64 hcs hsz1 htop
      generalize topI ((patP v w).1 : Int) = tp at *
      generalize encR v w = r at *
      generalize encM v w = m at *
      generalize (patP v w).1 = s at *
      generalize (patP v w).2.1 = o at *
      go_enter Tryz.func142, Tryz.ntmps142
      go_wp2_with (first
        | (go_at_call 164; refine (hf.out _).mono ?_; rintro e wA ⟨rfl, hbA⟩)
        | (go_at_call 162; refine (ht.out _).mono ?_; rintro e wB ⟨rfl, hbB⟩; have hB := bthen hbA hbB hbA.size))
      go_returns
      exact ⟨by simp, hB⟩
  · obtain ⟨e1, e2, e3⟩ := enc_none he
    rw [e1, e2, e3]
    have b : (patErr v w != 0) = true := by simpa using he
    generalize (patP v w).1 = s at *
    generalize (patP v w).2.1 = o at *
    generalize (patP v w).2.2 = q at *
    generalize patErr v w = er at *
    clear e1 e2 e3 hcs he
    go_enter Tryz.func142, Tryz.ntmps142
    go_wp2_with (first
        | (go_at_call 164; refine (hf.out _).mono ?_; rintro e wA ⟨rfl, hbA⟩))
    go_returns
    exact ⟨by simp, hbA⟩
theorem rfield_any (v w : Int) (hv : U64 v) (W : World) : Calls Tryz.prog 108 #[.int .u64 v, .int .i64 w] W (Ret (.tuple #[.int .i64 (encF v w), .int .i64 (patErr v w)]) W) := by
  have hf := Lib.hid (rencode_any v w hv)
  obtain ⟨hn, h1, h2, h3, h4⟩ := enc_bounds v w
  have hj := join_fact _ _ _ hn h1 h2 h3 h4
  have hq : encF v w = encN v w * 4096 + encR v w * 64 + encM v w := rfl
  rw [← hq] at hj
  by_cases he : patErr v w = 0
  · rw [he] at hf
    rw [he]
    clear hq he
    generalize encF v w = f at *
    generalize encN v w = n at *
    generalize encR v w = r at *
    generalize encM v w = m at *
    go_enter Tryz.func108, Tryz.ntmps108
    go_wp2_with (first
      | (go_at_call 142; refine (hf.out _).mono ?_; rintro e wA ⟨rfl, hbA⟩))
    go_returns
    exact ⟨by simp, hbA⟩
  · obtain ⟨e1, e2, e3⟩ := enc_none he
    have e0 : encF v w = 0 := by rw [hq, e1, e2, e3]; decide
    rw [e0]
    have b : (patErr v w != 0) = true := by simpa using he
    clear e0 e1 e2 e3 he hj hq hn h1 h2 h3 h4
    generalize encN v w = n at *
    generalize encR v w = r at *
    generalize encM v w = m at *
    generalize patErr v w = er at *
    go_enter Tryz.func108, Tryz.ntmps108
    go_wp2_with (first
      | (go_at_call 142; refine (hf.out _).mono ?_; rintro e wA ⟨rfl, hbA⟩))
    go_returns
    exact ⟨by simp, hbA⟩
end Go.Proofs.YtopfaapcekiojaaGreat
