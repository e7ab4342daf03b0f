/- Logical immediates: the pattern of parts, and Decode. -/
import Derived.Test.YtopfaapcekiojaaGreatLogW0
import Derived.LoopN
import Derived.Handy
import Derived.Outline
namespace Go.Proofs.YtopfaapcekiojaaGreat
open Go.RowKit Go.Sort
attribute [local go_sem] cell_gr frozen_gr
set_option linter.unusedVariables false

/-- what stands in imms above the number of ones -/
def topI (s : Int) : Int := if 32 ≤ s then 0 else 64 - 2 * s
/-- the size that parts tell -/
def szI (n imms : Int) : Int := if n = 1 then 64 else if imms < 32 then 32 else if imms < 48 then 16 else if imms < 56 then 8 else if imms < 60 then 4 else if imms < 62 then 2 else 0
theorem above_any (s o t : Int) (W : World) (hs : 0 ≤ s) (hs2 : s ≤ 64) : Calls Tryz.prog 172 #[.agg #[.int .i64 s, .int .i64 o, .int .i64 t]] W (Ret (.int .i64 (topI s)) W) := by
  by_cases h : 32 ≤ s
  · have e : topI s = 0 := if_pos h
    rw [e]
    go_enter Tryz.func172, Tryz.ntmps172
    go_wp2
    go_ret
    exact ⟨rfl, bnew _ _⟩
  · have e : topI s = 64 - 2 * s := if_neg h
    rw [e]
    go_enter Tryz.func172, Tryz.ntmps172
    go_wp2
    go_ret
    exact ⟨rfl, bnew _ _⟩
/-- the pattern that parts tell -/
def ofV (n r m : Int) : Value := .agg #[.int .i64 (szI n m), .int .i64 (if szI n m = 0 then 0 else m - topI (szI n m) + 1), .int .i64 (if szI n m = 0 then 0 else r)]
theorem ofV_of (n r m z : Int) (h : szI n m = z) (hz : z ≠ 0) : ofV n r m = .agg #[.int .i64 z, .int .i64 (m - topI z + 1), .int .i64 r] := by
  unfold ofV; rw [h, if_neg hz, if_neg hz]
theorem ofV_no (n r m : Int) (h : szI n m = 0) : ofV n r m = .agg #[.int .i64 0, .int .i64 0, .int .i64 0] := by
  unfold ofV; rw [h, if_pos rfl, if_pos rfl]
theorem szI_low (m z : Int) (hz : z = 32 ∨ z = 16 ∨ z = 8 ∨ z = 4 ∨ z = 2) (h : 64 - 2 * z ≤ m) (h' : m < 64 - z) (hm : 0 ≤ m) : szI 0 m = z := by
  unfold szI
  rcases hz with rfl | rfl | rfl | rfl | rfl <;> (simp only [show ¬ ((0 : Int) = 1) by decide, if_false]; (repeat' split) <;> omega)
theorem topI_low (z : Int) (hz : z = 32 ∨ z = 16 ∨ z = 8 ∨ z = 4 ∨ z = 2) : topI z = 64 - 2 * z := by
  rcases hz with rfl | rfl | rfl | rfl | rfl <;> rfl
set_option maxHeartbeats 2000000 in
theorem of_any0 (r m : Int) (W : World) (hm : 0 ≤ m) (hm2 : m ≤ 63) (hr : I64 r) :
    Calls Tryz.prog 166 #[.int .i64 0, .int .i64 r, .int .i64 m] W (Ret (ofV 0 r m) W) := by
  go_enter Tryz.func166, Tryz.ntmps166
  go_wp2
  have hB00 : Below W.heap.size W (W.alloc (Obj.cells #[Value.int IntKind.i64 0, Value.int IntKind.i64 0, Value.int IntKind.i64 0] 150)) := bnew _ _
  go_loopw [7] (fun s wr => Below (W.alloc (Obj.cells #[Value.int IntKind.i64 0, Value.int IntKind.i64 0, Value.int IntKind.i64 0] 150)).heap.size (W.alloc (Obj.cells #[Value.int IntKind.i64 0, Value.int IntKind.i64 0, Value.int IntKind.i64 0] 150)) wr ∧ ∃ z : Int, (z = 1 ∨ (z = 32 ∨ z = 16 ∨ z = 8 ∨ z = 4 ∨ z = 2)) ∧ s = .int .i64 z ∧ 64 - 2 * z ≤ m) (fun s _ => (intOf s).toNat)
  case atStart => exact ⟨Below.refl _ _, 32, .inr (.inl rfl), rfl, by omega⟩
  case round =>
    obtain ⟨hB0, z, hz, rfl, hl⟩ := hrel
    have hc0 := (bcell hB0).1 W.heap.size 0 (by simp)
    have hc1 := (bcell hB0).1 W.heap.size 1 (by simp)
    have hc2 := (bcell hB0).1 W.heap.size 2 (by simp)
    have hf0 := (bcell hB0).2 W.heap.size 0 (by simp)
    have hf1 := (bcell hB0).2 W.heap.size 1 (by simp)
    have hf2 := (bcell hB0).2 W.heap.size 2 (by simp)
    have hz0 : W.heap.size < wr.heap.size := blt hB0 (by simp)
    have hBW := bone hB0
    simp [go_sem] at hc0 hc1 hc2 hf0 hf1 hf2
    rcases hz with rfl | hz
    · have hno : szI 0 m = 0 := by
        unfold szI
        simp only [show ¬ ((0 : Int) = 1) by decide, if_false]; (repeat' split) <;> omega
      have hv := ofV_no 0 r m hno
      go_wp2
      rw [hv]
      (try simp only [Exit.inBlock, Exit.then])
      (refine bodyPost_ret (by simp [results, Tryz.results166, go_sem, hc0, hc1, hc2]; try rfl) rfl ?_)
      exact ⟨by simp, by go_grown⟩
    · by_cases hc : m < 64 - z
      · rw [ofV_of 0 r m z (szI_low m z hz hl hc hm) (by omega), topI_low z hz]
        have ht := topI_low z hz
        generalize hq : topI z = q at ht
        rcases hz with rfl | rfl | rfl | rfl | rfl
        all_goals (go_wp2_with (first
          | (go_at_call 172; refine (above_any _ _ _ _ (by decide) (by decide)).mono ?_; rintro e w1 ⟨rfl, hb1⟩; rw [hq]; have hd0 := ((bcell hb1).1 W.heap.size 0 (by simp; omega)).trans (cell_up _ hc0); have hd1 := ((bcell hb1).1 W.heap.size 1 (by simp; omega)).trans (cell_up _ hc1); have hd2 := ((bcell hb1).1 W.heap.size 2 (by simp; omega)).trans (cell_up _ hc2); have hg0 := ((bcell hb1).2 W.heap.size 0 (by simp; omega)).trans (frozen_up _ hc0 hf0); have hg1 := ((bcell hb1).2 W.heap.size 1 (by simp; omega)).trans (frozen_up _ hc1 hf1); have hg2 := ((bcell hb1).2 W.heap.size 2 (by simp; omega)).trans (frozen_up _ hc2 hf2); have hB := bthen (bthen hBW (bnew _ _) hBW.size) hb1 (by simp; omega); have hBz := bthen (bthen hB0 (bnew _ _) hB0.size) hb1 (by have := hB0.size; simp at *; omega))))
        all_goals ((try simp only [Exit.inBlock, Exit.then]); (refine bodyPost_ret (by simp [results, Tryz.results166, go_sem, hd0, hd1, hd2]; try rfl) rfl ?_); exact ⟨by simp, by go_grown⟩)
      · have ht := topI_low z hz
        generalize hq : topI z = q at ht
        rcases hz with rfl | rfl | rfl | rfl | rfl
        all_goals (go_wp2_with (first
          | (go_at_call 172; refine (above_any _ _ _ _ (by decide) (by decide)).mono ?_; rintro e w1 ⟨rfl, hb1⟩; rw [hq]; have hd0 := ((bcell hb1).1 W.heap.size 0 (by simp; omega)).trans (cell_up _ hc0); have hd1 := ((bcell hb1).1 W.heap.size 1 (by simp; omega)).trans (cell_up _ hc1); have hd2 := ((bcell hb1).1 W.heap.size 2 (by simp; omega)).trans (cell_up _ hc2); have hg0 := ((bcell hb1).2 W.heap.size 0 (by simp; omega)).trans (frozen_up _ hc0 hf0); have hg1 := ((bcell hb1).2 W.heap.size 1 (by simp; omega)).trans (frozen_up _ hc1 hf1); have hg2 := ((bcell hb1).2 W.heap.size 2 (by simp; omega)).trans (frozen_up _ hc2 hf2); have hB := bthen (bthen hBW (bnew _ _) hBW.size) hb1 (by simp; omega); have hBz := bthen (bthen hB0 (bnew _ _) hB0.size) hb1 (by have := hB0.size; simp at *; omega))))
        all_goals (refine ⟨⟨hBz, _, ?_, rfl, ?_⟩, by decide⟩; decide; omega)
theorem of_any1 (r m : Int) (W : World) (hm : 0 ≤ m) (hm2 : m ≤ 63) (hr : I64 r) :
    Calls Tryz.prog 166 #[.int .i64 1, .int .i64 r, .int .i64 m] W (Ret (ofV 1 r m) W) := by
  rw [ofV_of 1 r m 64 rfl (by decide), show topI 64 = 0 from rfl]
  go_enter Tryz.func166, Tryz.ntmps166
  go_wp2
  go_returns
  exact ⟨by simp, bnew _ _⟩
theorem of_any (n r m : Int) (W : World) (hn : n = 0 ∨ n = 1) (hm : 0 ≤ m) (hm2 : m ≤ 63) (hr : I64 r) :
    Calls Tryz.prog 166 #[.int .i64 n, .int .i64 r, .int .i64 m] W (Ret (ofV n r m) W) := by
  rcases hn with rfl | rfl
  · exact of_any0 r m W hm hm2 hr
  · exact of_any1 r m W hm hm2 hr
end Go.Proofs.YtopfaapcekiojaaGreat
