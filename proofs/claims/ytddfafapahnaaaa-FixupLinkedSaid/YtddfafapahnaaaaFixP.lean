/- The parts of a value: both its names, found. -/
import Derived.Test.YtddfafapahnaaaaFixS
import Derived.Test.YtddfafapahnaaaaFixB
import Derived.Laws.Rows
import Derived.Laws.Tables
import Derived.Deep.MidRow
namespace Go.Proofs.Ytddfafapahnaaaa
open Go.RowKit Go.Sort Go.Shelf
attribute [local go_sem] cell_gr frozen_gr
set_option linter.unusedVariables false
set_option linter.unusedSimpArgs false

/-- one name of a value: none (there is no name), missing, or there -/
def part (nm : ByteArray) (sec off : Int) (l : List Sy) : Option (Option Pt) := if nm = noS then some none else (look nm sec off l).map some
def ptv (x : Option Pt) : Pt := x.getD ((noS, 0, 0, false), 0)
/-- its cells -/
def partC (x : Option Pt) : List Value := [.bool x.isSome, .string (ptv x).1.1, .int .i64 (ptv x).1.2.1, .int .i64 (ptv x).1.2.2.1, .bool (ptv x).1.2.2.2, .int .i64 (ptv x).2]
def zeroPt : List Value := [.bool false, .string ⟨#[]⟩, .int .i64 0, .int .i64 0, .bool false, .int .i64 0]
theorem PlaceAt.keep {B : Nat} {sec off : Int} {A : Option Addr} {n ca : Nat} {w w' : World} (h : PlaceAt B sec off A n ca w) (hb : Below w.heap.size w w') : PlaceAt B sec off A n ca w' :=
  ⟨((bcell hb).1 _ _ (block_lt_of_cell h.1)).trans h.1, ((bcell hb).1 _ _ (block_lt_of_cell h.1)).trans h.2.1, ((bcell hb).1 _ _ (block_lt_of_cell h.1)).trans h.2.2⟩
/-- what parts hands back -/
def PartsR (p m : Option (Option Pt)) (w : World) (e : Ending) (w' : World) : Prop := Below w.heap.size w w' ∧ match p, m with
  | some a, some b => e = .returned (.tuple #[.agg (partC a ++ partC b).toArray, .bool true])
  | _, _ => e = .returned (.tuple #[.agg (partC (p.getD none) ++ partC none).toArray, .bool false])
def stP (p m : Option (Option Pt)) : Nat → List Value
  | 0 => zeroPt ++ zeroPt
  | 1 => partC (p.getD none) ++ zeroPt
  | _ => partC (p.getD none) ++ partC (m.getD none)
set_option maxRecDepth 100000 in
set_option maxHeartbeats 4000000 in
theorem parts_any (B : Nat) (sec off : Int) (A : Option Addr) (n ca : Nat) (l : List Sy) (add : Int) (pl mi : ByteArray) (w : World) (hP : PlaceAt B sec off A n ca w) (hl : SRow w A n l) :
    Calls Try.prog 32 #[.agg #[.int .i64 add, .string pl, .string mi], .func (.func 33) #[.pointer (some ⟨B, 0, none⟩)] #[]] w (PartsR (part pl sec off l) (part mi sec off l) w) := by
  have c1 := Lib.hid (fun W (hb : Below w.heap.size w W) => pfind_any B sec off A n ca l pl W (hP.keep hb) (hl.keep hb))
  have c2 := Lib.hid (fun W (hb : Below w.heap.size w W) => pfind_any B sec off A n ca l mi W (hP.keep hb) (hl.keep hb))
  obtain ⟨P, hPe⟩ : ∃ P, P = part pl sec off l := ⟨_, rfl⟩
  obtain ⟨M, hMe⟩ : ∃ M, M = part mi sec off l := ⟨_, rfl⟩
  rw [← hPe, ← hMe]
  replace hPe := Lib.hid hPe
  replace hMe := Lib.hid hMe
  go_enter Try.func32, Try.ntmps32
  go_wp2
  have hB : Below w.heap.size w (((w.alloc (.cells #[.int .i64 add, .string pl, .string mi] 23)).alloc (.cells #[.bool false, .string ⟨#[]⟩, .int .i64 0, .int .i64 0, .bool false, .int .i64 0, .bool false, .string ⟨#[]⟩, .int .i64 0, .int .i64 0, .bool false, .int .i64 0] 75)).alloc (.cells #[.bool false, .string ⟨#[]⟩, .int .i64 0, .int .i64 0, .bool false, .int .i64 0, .bool false, .string ⟨#[]⟩, .int .i64 0, .int .i64 0, .bool false, .int .i64 0] 75)) := by go_grown
  have hL : BlockIs (w.heap.size + 1 + 1) (zeroPt ++ zeroPt) 75 (((w.alloc (.cells #[.int .i64 add, .string pl, .string mi] 23)).alloc (.cells #[.bool false, .string ⟨#[]⟩, .int .i64 0, .int .i64 0, .bool false, .int .i64 0, .bool false, .string ⟨#[]⟩, .int .i64 0, .int .i64 0, .bool false, .int .i64 0] 75)).alloc (.cells #[.bool false, .string ⟨#[]⟩, .int .i64 0, .int .i64 0, .bool false, .int .i64 0, .bool false, .string ⟨#[]⟩, .int .i64 0, .int .i64 0, .bool false, .int .i64 0] 75)) := by
    have := World.alloc_heap_new ((w.alloc (.cells #[.int .i64 add, .string pl, .string mi] 23)).alloc (.cells #[.bool false, .string ⟨#[]⟩, .int .i64 0, .int .i64 0, .bool false, .int .i64 0, .bool false, .string ⟨#[]⟩, .int .i64 0, .int .i64 0, .bool false, .int .i64 0] 75)) (.cells #[.bool false, .string ⟨#[]⟩, .int .i64 0, .int .i64 0, .bool false, .int .i64 0, .bool false, .string ⟨#[]⟩, .int .i64 0, .int .i64 0, .bool false, .int .i64 0] 75)
    rw [World.size_alloc, World.size_alloc] at this
    exact this
  have hR : BlockIs (w.heap.size + 1) (zeroPt ++ zeroPt) 75 (((w.alloc (.cells #[.int .i64 add, .string pl, .string mi] 23)).alloc (.cells #[.bool false, .string ⟨#[]⟩, .int .i64 0, .int .i64 0, .bool false, .int .i64 0, .bool false, .string ⟨#[]⟩, .int .i64 0, .int .i64 0, .bool false, .int .i64 0] 75)).alloc (.cells #[.bool false, .string ⟨#[]⟩, .int .i64 0, .int .i64 0, .bool false, .int .i64 0, .bool false, .string ⟨#[]⟩, .int .i64 0, .int .i64 0, .bool false, .int .i64 0] 75)) := by
    have := World.alloc_heap_new (w.alloc (.cells #[.int .i64 add, .string pl, .string mi] 23)) (.cells #[.bool false, .string ⟨#[]⟩, .int .i64 0, .int .i64 0, .bool false, .int .i64 0, .bool false, .string ⟨#[]⟩, .int .i64 0, .int .i64 0, .bool false, .int .i64 0] 75)
    rw [World.size_alloc] at this
    exact BlockIs.alloc this _
  generalize (((w.alloc (.cells #[.int .i64 add, .string pl, .string mi] 23)).alloc (.cells #[.bool false, .string ⟨#[]⟩, .int .i64 0, .int .i64 0, .bool false, .int .i64 0, .bool false, .string ⟨#[]⟩, .int .i64 0, .int .i64 0, .bool false, .int .i64 0] 75)).alloc (.cells #[.bool false, .string ⟨#[]⟩, .int .i64 0, .int .i64 0, .bool false, .int .i64 0, .bool false, .string ⟨#[]⟩, .int .i64 0, .int .i64 0, .bool false, .int .i64 0] 75)) = W0 at *
  have ix0 : ∀ W, Sem.run Try.prog (Instr.index 103 (.agg #[.string pl, .string mi]) (.int .i64 0)) W = .ok (.string pl) W := fun _ => by kernel_rfl
  have ix1 : ∀ W, Sem.run Try.prog (Instr.index 103 (.agg #[.string pl, .string mi]) (.int .i64 1)) W = .ok (.string mi) W := fun _ => by kernel_rfl
  go_loopw [17] (fun i wr => ∃ k : Nat, k ≤ 2 ∧ i = .int .i64 k ∧ Below w.heap.size w wr ∧ BlockIs (w.heap.size + 1 + 1) (stP P M k) 75 wr ∧ BlockIs (w.heap.size + 1) (zeroPt ++ zeroPt) 75 wr ∧ (1 ≤ k → P ≠ none) ∧ (2 ≤ k → M ≠ none)) (fun i _ => (2 - intOf i).toNat)
  case atStart => exact ⟨0, by omega, rfl, hB, hL, hR, fun h => by omega, fun h => by omega⟩
  case round =>
    clear hB hL hR
    obtain ⟨k, hk, rfl, hB, hL, hR, hPs, hMs⟩ := hrel
    have hk' : k = 0 ∨ k = 1 ∨ k = 2 := by omega
    rcases hk' with rfl | rfl | rfl
    · clear c2 ix1
      replace hL : BlockIs (w.heap.size + 1 + 1) (zeroPt ++ zeroPt) 75 wr := hL
      by_cases h1 : pl = noS
      · have b1 : (pl.toList == []) = true := by rw [h1, no_list]; rfl
        have eX : P = some none := by rw [hPe.out]; exact if_pos h1
        clear h1 c1
        go_wp2
        go_roundw
        case rel => exact ⟨1, by omega, rfl, hB, by rw [eX] at *; exact hL, hR, fun _ => by rw [eX]; simp, fun h => by omega⟩
        case measure => simp [intOf]
      · have b1 : (pl.toList == []) = false := beq_eq_false_iff_ne.2 (fun h => h1 (toList_inj (by rw [h, no_list])))
        have eX : P = (look pl sec off l).map some := by rw [hPe.out]; exact if_neg h1
        clear h1
        cases hlk : look pl sec off l with
        | none =>
          rw [hlk] at c1 eX
          replace eX : P = none := eX
          go_wp2_with (first
            | (go_at_call 33; refine (c1.out _ hB).mono ?_; rintro e wa ⟨rfl, hba⟩; simp only [lookV, syV]; have hLa := hL.below hba; have hRa := hR.below hba; have hLz := hLa.lt; have hRz := hRa.lt; have hB2 := bthen hB hba hB.size)
            | (refine wpList_load_row rfl 75 _ rfl (w.heap.size + 1 + 1) rfl 75 _ (0, 0) _ (by first | exact hLa | exact hLa.alloc _) Try.underlying75 rfl (by kernel_rfl) ?_)
            | (refine wpList_store_row rfl 75 _ _ rfl (w.heap.size + 1) (zeroPt ++ zeroPt).toArray rfl rfl 75 _ (by first | exact hRa | exact hRa.alloc _) (by kernel_rfl) (by simp [zeroPt, partC]) (by simp [zeroPt, partC, Value.oneCell']) ?_))
          have hRf := BlockIs.row (hRa.alloc (.cells #[.string noS, .int .i64 0, .int .i64 0, .bool false] 44)) (zeroPt ++ zeroPt) rfl
          try simp only [Exit.inBlock, Exit.then]
          refine bodyPost_ret (v := .tuple #[.agg (zeroPt ++ zeroPt).toArray, .bool false]) ?_ rfl ?_
          · simp [results, Try.f32, asAddr, run_loadVar_row _ _ _ _ _ _ _ hRf Try.underlying75 rfl (by kernel_rfl)]
          refine ⟨below_row (hB2.alloc hB2.size _) (by omega) _, ?_⟩
          rw [eX]
          rfl
        | some p =>
          rw [hlk] at c1 eX
          replace eX : P = some (some p) := eX
          go_wp2_with (first
            | (go_at_call 33; refine (c1.out _ hB).mono ?_; rintro e wa ⟨rfl, hba⟩; simp only [lookV, syV]; have hLa := hL.below hba; have hRa := hR.below hba; have hLz := hLa.lt; have hRz := hRa.lt; have hB2 := bthen hB hba hB.size)
            | (refine wpList_store_mid rfl 74 _ _ rfl (w.heap.size + 1 + 1) 0 ([.bool true, .string p.1.1, .int .i64 p.1.2.1, .int .i64 p.1.2.2.1, .bool p.1.2.2.2, .int .i64 p.2] : List Value).toArray rfl rfl ((hLa.alloc _).there 0 6 (by simp [partC, zeroPt])) (by kernel_rfl) (by simp [Value.oneCell']) ?_; have hL2 := (hLa.alloc (.cells #[.string p.1.1, .int .i64 p.1.2.1, .int .i64 p.1.2.2.1, .bool p.1.2.2.2] 44)).setCells 0 [.bool true, .string p.1.1, .int .i64 p.1.2.1, .int .i64 p.1.2.2.1, .bool p.1.2.2.2, .int .i64 p.2]; have hR2 := BlockIs.otherCells (B' := w.heap.size + 1 + 1) (by omega) [.bool true, .string p.1.1, .int .i64 p.1.2.1, .int .i64 p.1.2.2.1, .bool p.1.2.2.2, .int .i64 p.2] 0 (hRa.alloc (.cells #[.string p.1.1, .int .i64 p.1.2.1, .int .i64 p.1.2.2.1, .bool p.1.2.2.2] 44)); have hB3 := below_cells (g := w.heap.size + 1 + 1) (by omega) [.bool true, .string p.1.1, .int .i64 p.1.2.1, .int .i64 p.1.2.2.1, .bool p.1.2.2.2, .int .i64 p.2] 0 (hB2.alloc hB2.size (.cells #[.string p.1.1, .int .i64 p.1.2.1, .int .i64 p.1.2.2.1, .bool p.1.2.2.2] 44)); clear hLa hRa hLz hRz hB2; simp only [] at hL2 hR2 hB3 ⊢; generalize (wa.alloc (.cells #[.string p.1.1, .int .i64 p.1.2.1, .int .i64 p.1.2.2.1, .bool p.1.2.2.2] 44)).setCells (w.heap.size + 1 + 1) 0 [.bool true, .string p.1.1, .int .i64 p.1.2.1, .int .i64 p.1.2.2.1, .bool p.1.2.2.2, .int .i64 p.2] = W9 at *))
          go_roundw
          case rel => exact ⟨1, by omega, rfl, hB3, by rw [eX] at *; exact hL2, hR2, fun _ => by rw [eX]; simp, fun h => by omega⟩
          case measure => simp [intOf]
    · clear c1 ix0
      replace hL : BlockIs (w.heap.size + 1 + 1) (partC (P.getD none) ++ zeroPt) 75 wr := hL
      by_cases h1 : mi = noS
      · have b1 : (mi.toList == []) = true := by rw [h1, no_list]; rfl
        have eX : M = some none := by rw [hMe.out]; exact if_pos h1
        clear h1 c2
        go_wp2
        go_roundw
        case rel => exact ⟨2, by omega, rfl, hB, by rw [eX] at *; exact hL, hR, fun _ => hPs (by omega), fun _ => by rw [eX]; simp⟩
        case measure => simp [intOf]
      · have b1 : (mi.toList == []) = false := beq_eq_false_iff_ne.2 (fun h => h1 (toList_inj (by rw [h, no_list])))
        have eX : M = (look mi sec off l).map some := by rw [hMe.out]; exact if_neg h1
        clear h1
        cases hlk : look mi sec off l with
        | none =>
          rw [hlk] at c2 eX
          replace eX : M = none := eX
          go_wp2_with (first
            | (go_at_call 33; refine (c2.out _ hB).mono ?_; rintro e wa ⟨rfl, hba⟩; simp only [lookV, syV]; have hLa := hL.below hba; have hRa := hR.below hba; have hLz := hLa.lt; have hRz := hRa.lt; have hB2 := bthen hB hba hB.size)
            | (refine wpList_load_row rfl 75 _ rfl (w.heap.size + 1 + 1) rfl 75 _ (0, 0) _ (by first | exact hLa | exact hLa.alloc _) Try.underlying75 rfl (by kernel_rfl) ?_)
            | (refine wpList_store_row rfl 75 _ _ rfl (w.heap.size + 1) (partC (P.getD none) ++ zeroPt).toArray rfl rfl 75 _ (by first | exact hRa | exact hRa.alloc _) (by kernel_rfl) (by simp [zeroPt, partC]) (by simp [zeroPt, partC, Value.oneCell']) ?_))
          have hRf := BlockIs.row (hRa.alloc (.cells #[.string noS, .int .i64 0, .int .i64 0, .bool false] 44)) (partC (P.getD none) ++ zeroPt) rfl
          try simp only [Exit.inBlock, Exit.then]
          refine bodyPost_ret (v := .tuple #[.agg (partC (P.getD none) ++ zeroPt).toArray, .bool false]) ?_ rfl ?_
          · simp [results, Try.f32, asAddr, run_loadVar_row _ _ _ _ _ _ _ hRf Try.underlying75 rfl (by kernel_rfl)]
          refine ⟨below_row (hB2.alloc hB2.size _) (by omega) _, ?_⟩
          rw [eX]
          cases P <;> rfl
        | some p =>
          rw [hlk] at c2 eX
          replace eX : M = some (some p) := eX
          go_wp2_with (first
            | (go_at_call 33; refine (c2.out _ hB).mono ?_; rintro e wa ⟨rfl, hba⟩; simp only [lookV, syV]; have hLa := hL.below hba; have hRa := hR.below hba; have hLz := hLa.lt; have hRz := hRa.lt; have hB2 := bthen hB hba hB.size)
            | (refine wpList_store_mid rfl 74 _ _ rfl (w.heap.size + 1 + 1) 6 ([.bool true, .string p.1.1, .int .i64 p.1.2.1, .int .i64 p.1.2.2.1, .bool p.1.2.2.2, .int .i64 p.2] : List Value).toArray rfl rfl ((hLa.alloc _).there 6 6 (by simp [partC, zeroPt])) (by kernel_rfl) (by simp [Value.oneCell']) ?_; have hL2 := (hLa.alloc (.cells #[.string p.1.1, .int .i64 p.1.2.1, .int .i64 p.1.2.2.1, .bool p.1.2.2.2] 44)).setCells 6 [.bool true, .string p.1.1, .int .i64 p.1.2.1, .int .i64 p.1.2.2.1, .bool p.1.2.2.2, .int .i64 p.2]; have hR2 := BlockIs.otherCells (B' := w.heap.size + 1 + 1) (by omega) [.bool true, .string p.1.1, .int .i64 p.1.2.1, .int .i64 p.1.2.2.1, .bool p.1.2.2.2, .int .i64 p.2] 6 (hRa.alloc (.cells #[.string p.1.1, .int .i64 p.1.2.1, .int .i64 p.1.2.2.1, .bool p.1.2.2.2] 44)); have hB3 := below_cells (g := w.heap.size + 1 + 1) (by omega) [.bool true, .string p.1.1, .int .i64 p.1.2.1, .int .i64 p.1.2.2.1, .bool p.1.2.2.2, .int .i64 p.2] 6 (hB2.alloc hB2.size (.cells #[.string p.1.1, .int .i64 p.1.2.1, .int .i64 p.1.2.2.1, .bool p.1.2.2.2] 44)); clear hLa hRa hLz hRz hB2; simp only [] at hL2 hR2 hB3 ⊢; generalize (wa.alloc (.cells #[.string p.1.1, .int .i64 p.1.2.1, .int .i64 p.1.2.2.1, .bool p.1.2.2.2] 44)).setCells (w.heap.size + 1 + 1) 6 [.bool true, .string p.1.1, .int .i64 p.1.2.1, .int .i64 p.1.2.2.1, .bool p.1.2.2.2, .int .i64 p.2] = W9 at *))
          go_roundw
          case rel => exact ⟨2, by omega, rfl, hB3, by rw [eX] at *; exact hL2, hR2, fun _ => hPs (by omega), fun _ => by rw [eX]; simp⟩
          case measure => simp [intOf]
    · clear c1 c2 ix0 ix1
      replace hL : BlockIs (w.heap.size + 1 + 1) (partC (P.getD none) ++ partC (M.getD none)) 75 wr := hL
      have hLa := hL
      have hRa := hR
      go_wp2_with (first
        | (refine wpList_load_row rfl 75 _ rfl (w.heap.size + 1 + 1) rfl 75 _ (0, 0) _ (by first | exact hLa | exact hLa.alloc _) Try.underlying75 rfl (by kernel_rfl) ?_)
        | (refine wpList_store_row rfl 75 _ _ rfl (w.heap.size + 1) (partC (P.getD none) ++ partC (M.getD none)).toArray rfl rfl 75 _ (by first | exact hRa | exact hRa.alloc _) (by kernel_rfl) (by simp [zeroPt, partC]) (by simp [zeroPt, partC, Value.oneCell']) ?_))
      have hRf := BlockIs.row hR (partC (P.getD none) ++ partC (M.getD none)) rfl
      try simp only [Exit.inBlock, Exit.then]
      refine bodyPost_ret (v := .tuple #[.agg (partC (P.getD none) ++ partC (M.getD none)).toArray, .bool true]) ?_ rfl ?_
      · simp [results, Try.f32, asAddr, run_loadVar_row _ _ _ _ _ _ _ hRf Try.underlying75 rfl (by kernel_rfl)]
      refine ⟨below_row hB (by omega) _, ?_⟩
      cases P with
      | none => exact absurd rfl (hPs (by omega))
      | some p =>
        cases M with
        | none => exact absurd rfl (hMs (by omega))
        | some m => rfl
end Go.Proofs.Ytddfafapahnaaaa
