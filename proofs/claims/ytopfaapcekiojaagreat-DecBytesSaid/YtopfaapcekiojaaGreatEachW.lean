/- The contracts of each (a word's bytes, told by an iterator), Bytes and Word. -/
import Derived.Test.YtopfaapcekiojaaGreatRefW2
import Derived.RangeFuncNested
import Derived.RangeFuncBound
import Derived.RangeFuncCalls
import Derived.RangeFuncLeaves
import Derived.Shelf.Abstract
import Derived.Shelf.RegionOpen
import Derived.OwnWalkIn
import Derived.TacticsInMore
import Derived.LoopNIn
import Derived.LoopIn
import Derived.Outline
namespace Go.Proofs.YtopfaapcekiojaaGreat
open Go.RowKit Go.Sort Go.Shelf
attribute [local go_sem] Oper.semAt_some
set_option linter.unusedVariables false

/-- a word's byte -/
def byteI (x : Int) : Nat → Int
  | 0 => x % 256
  | 1 => x / 256 % 256
  | 2 => x / 65536 % 256
  | _ => x / 16777216 % 256
/-- what is told: a number from 0 to 3, and a byte -/
def EachX : Type := { p : Int × Int // (0 ≤ p.1 ∧ p.1 < 4) ∧ 0 ≤ p.2 ∧ p.2 < 256 }
def eachEnc (p : EachX) : Array Value := #[.int .i64 p.1.1, .int .u8 p.1.2]
theorem byteI_bd (x : Int) (j : Nat) : 0 ≤ byteI x j ∧ byteI x j < 256 := by unfold byteI; split <;> omega
def eachAt (x : Int) (j : Nat) (h : j < 4) : EachX := ⟨((j : Int), byteI x j), ⟨by omega, by omega⟩, (byteI_bd x j).1, (byteI_bd x j).2⟩
def eachL (x : Int) : List EachX := [eachAt x 0 (by decide), eachAt x 1 (by decide), eachAt x 2 (by decide), eachAt x 3 (by decide)]

theorem each_index0 (a b c d : Value) (W : World) : (Instr.index 126 (.agg #[a, b, c, d]) (.int .i64 0)).run Tryz.prog W = .ok a W := by kernel_rfl
theorem each_index1 (a b c d : Value) (W : World) : (Instr.index 126 (.agg #[a, b, c, d]) (.int .i64 1)).run Tryz.prog W = .ok b W := by kernel_rfl
theorem each_index2 (a b c d : Value) (W : World) : (Instr.index 126 (.agg #[a, b, c, d]) (.int .i64 2)).run Tryz.prog W = .ok c W := by kernel_rfl
theorem each_index3 (a b c d : Value) (W : World) : (Instr.index 126 (.agg #[a, b, c, d]) (.int .i64 3)).run Tryz.prog W = .ok d W := by kernel_rfl
attribute [local go_sem] each_index0 each_index1 each_index2 each_index3
set_option maxRecDepth 100000 in
set_option maxHeartbeats 4000000 in
theorem each_stops (F : Fence) (n : Nat) (hF : F.fn 121) (hro : F.round = none) (hn : 1 ≤ n) (Bw : Nat) (x : Int) (hx : U32 x) (w : World) (hb : Bw < w.heap.size) (hc : w.cell? ⟨Bw, 0, none⟩ = some (.int .u32 x)) :
    SeqStopsA F n Tryz.prog 121 #[.pointer (some ⟨Bw, 0, none⟩)] eachEnc (fun xs => xs = eachL x) (fun _ => True) 4 w := fun l J Jx W hW _ _ hY h0 => by
  have hc' := (hW.cell (p := ⟨Bw, 0, none⟩) hb).trans hc
  obtain ⟨x1, x2⟩ := hx
  refine callsIn_of_wp Tryz.func121 rfl hF ?_ hro
  simp only [Tryz.ntmps121, List.size_toArray, List.length_cons, List.length_nil, Nat.reduceAdd, Nat.reduceSub, Array.replicate_succ, Array.replicate_zero, List.push_toArray, List.append_toArray, List.nil_append, List.cons_append]
  gi_wp2
  gi_loopw [17] (fun i wr => ∃ k : Nat, k ≤ 4 ∧ i = .int .i64 k ∧ J ((eachL x).take k) wr) (fun i _ => 4 - (intOf i).toNat)
  case atStart => exact ⟨0, by omega, rfl, h0⟩
  case round =>
    obtain ⟨k, hk, rfl, hJs⟩ := hrel
    have hk' : k = 0 ∨ k = 1 ∨ k = 2 ∨ k = 3 ∨ k = 4 := by omega
    rcases hk' with rfl | rfl | rfl | rfl | rfl
    · have e : eachEnc (eachAt x 0 (by decide)) = #[.int .i64 0, .int .u8 (x % 256)] := by simp [eachEnc, eachAt, byteI]
      obtain ⟨fn, tmps, assign, body, hy, hR⟩ := hY _ (eachAt x 0 (by decide)) wr hJs (by simp [eachL])
      rw [e] at hy
      clear e
      gi_wp2
      refine hR.mono ?_
      rintro e W3 (⟨rfl, hJ3, hk3⟩ | ⟨rfl, hJx3⟩)
      · gi_wp2
        go_roundw
        case rel => exact ⟨1, by omega, by simp, hJ3⟩
        case measure => simp [intOf]
      · gi_wp2
        refine bodyPost_ret (results_none rfl _ _ _) rfl ?_
        exact ⟨⟨_, rfl⟩, .inr ⟨_, trivial, hJx3⟩⟩
    · have e : eachEnc (eachAt x 1 (by decide)) = #[.int .i64 1, .int .u8 (x / 256 % 256)] := by simp [eachEnc, eachAt, byteI]
      obtain ⟨fn, tmps, assign, body, hy, hR⟩ := hY _ (eachAt x 1 (by decide)) wr hJs (by simp [eachL])
      rw [e] at hy
      clear e
      gi_wp2
      refine hR.mono ?_
      rintro e W3 (⟨rfl, hJ3, hk3⟩ | ⟨rfl, hJx3⟩)
      · gi_wp2
        go_roundw
        case rel => exact ⟨2, by omega, by simp, hJ3⟩
        case measure => simp [intOf]
      · gi_wp2
        refine bodyPost_ret (results_none rfl _ _ _) rfl ?_
        exact ⟨⟨_, rfl⟩, .inr ⟨_, trivial, hJx3⟩⟩
    · have e : eachEnc (eachAt x 2 (by decide)) = #[.int .i64 2, .int .u8 (x / 65536 % 256)] := by simp [eachEnc, eachAt, byteI]
      obtain ⟨fn, tmps, assign, body, hy, hR⟩ := hY _ (eachAt x 2 (by decide)) wr hJs (by simp [eachL])
      rw [e] at hy
      clear e
      gi_wp2
      refine hR.mono ?_
      rintro e W3 (⟨rfl, hJ3, hk3⟩ | ⟨rfl, hJx3⟩)
      · gi_wp2
        go_roundw
        case rel => exact ⟨3, by omega, by simp, hJ3⟩
        case measure => simp [intOf]
      · gi_wp2
        refine bodyPost_ret (results_none rfl _ _ _) rfl ?_
        exact ⟨⟨_, rfl⟩, .inr ⟨_, trivial, hJx3⟩⟩
    · have e : eachEnc (eachAt x 3 (by decide)) = #[.int .i64 3, .int .u8 (x / 16777216)] := by simp [eachEnc, eachAt, byteI]; omega
      obtain ⟨fn, tmps, assign, body, hy, hR⟩ := hY _ (eachAt x 3 (by decide)) wr hJs (by simp [eachL])
      rw [e] at hy
      clear e
      gi_wp2
      refine hR.mono ?_
      rintro e W3 (⟨rfl, hJ3, hk3⟩ | ⟨rfl, hJx3⟩)
      · gi_wp2
        go_roundw
        case rel => exact ⟨4, by omega, by simp, hJ3⟩
        case measure => simp [intOf]
      · gi_wp2
        refine bodyPost_ret (results_none rfl _ _ _) rfl ?_
        exact ⟨⟨_, rfl⟩, .inr ⟨_, trivial, hJx3⟩⟩
    · gi_wp2
      go_end0
      exact ⟨⟨_, rfl⟩, .inl ⟨_, rfl, hJs⟩⟩
theorem each_in (F : Fence) (n : Nat) (hF : F.fn 71) (hro : F.round = none) (x : Int) (w : World) :
    CallsIn F n Tryz.prog 71 #[.int .u32 x] w fun e w' => e = .returned (.func (.func 121) #[] #[.pointer (some ⟨w.heap.size, 0, none⟩)]) ∧ w' = w.alloc (.cells #[.int .u32 x] 22) := by
  refine callsIn_of_wp Tryz.func71 rfl hF ?_ hro
  simp only [Tryz.ntmps71, List.size_toArray, List.length_cons, List.length_nil, Nat.reduceAdd, Nat.reduceSub, Array.replicate_succ, Array.replicate_zero, List.push_toArray, List.append_toArray, List.nil_append, List.cons_append]
  gi_wp2
  go_ret
  exact ⟨rfl, rfl⟩

/-- what lies at a place when some bytes have been told -/
def setAll (pre : List EachX) (j : Nat) : Int := pre.foldl (fun a p => if p.1.1.toNat = j then p.1.2 else a) 0
theorem setAll_snoc (pre : List EachX) (p : EachX) (j : Nat) : setAll (pre ++ [p]) j = if p.1.1.toNat = j then p.1.2 else setAll pre j := by simp [setAll]
theorem setAll_all (x : Int) (j : Nat) (h : j < 4) : setAll (eachL x) j = byteI x j := by
  have : j = 0 ∨ j = 1 ∨ j = 2 ∨ j = 3 := by omega
  rcases this with rfl | rfl | rfl | rfl <;> rfl
/-- four bytes in a block of the call's own -/
def Four (W : World) (g : Nat) (f : Nat → Int) : Prop := ∀ j, j < 4 → W.cell? ⟨g, j, none⟩ = some (.int .u8 (f j)) ∧ W.frozen? ⟨g, j, none⟩ = false
/-- Bytes: a new slice of the word's four bytes -/
def BytesAt (x : Int) (w : World) (e : Ending) (w' : World) : Prop := e = .returned (.slice (some ⟨w.heap.size, 0, none⟩) 4 4) ∧ Four w' w.heap.size (byteI x) ∧ w.heap.size < w'.heap.size ∧ Below w.heap.size w w'
set_option maxRecDepth 100000 in
set_option maxHeartbeats 4000000 in
theorem bytes_in (F : Fence) (n : Nat) (h34 : F.fn 40) (h56 : F.fn 71) (h67 : F.fn 121) (hro : F.round = none) (hn : 3 ≤ n) (x : Int) (hx : U32 x) (w : World) :
    CallsIn F n Tryz.prog 40 #[.int .u32 x] w (BytesAt x w) := by
  have h1 : 1 ≤ n := by omega
  refine callsIn_of_wp_marks Tryz.func40 rfl h34 ?_ hro
  simp only [Tryz.ntmps40, List.size_toArray, List.length_cons, List.length_nil, Nat.reduceAdd, Nat.reduceSub, Array.replicate_succ, Array.replicate_zero, List.push_toArray, List.append_toArray, List.nil_append, List.cons_append]
  have hmk : ∀ W, (Instr.makeSlice 36 (.int .i64 4) (.int .i64 4)).run Tryz.prog W = .ok (.slice (some ⟨W.heap.size, 0, none⟩) 4 4) (W.alloc (.cells #[.int .u8 0, .int .u8 0, .int .u8 0, .int .u8 0] 5)) := fun _ => by kernel_rfl
  gi_wp2_with (gi_at_call 71; refine (each_in F (n - 1) h56 hro _ _).mono ?_; rintro e w' ⟨rfl, rfl⟩)
  have hF0 : Four (((w.alloc (.cells #[.int .u8 0, .int .u8 0, .int .u8 0, .int .u8 0] 5)).alloc (.cells #[.slice (some ⟨w.heap.size, 0, none⟩) 4 4] 36)).alloc (.cells #[.int .u32 x] 22)) w.heap.size (setAll []) := fun j hj => by
    have : j = 0 ∨ j = 1 ∨ j = 2 ∨ j = 3 := by omega
    have hc : (w.alloc (.cells #[.int .u8 0, .int .u8 0, .int .u8 0, .int .u8 0] 5)).cell? ⟨w.heap.size, j, none⟩ = some (.int .u8 (setAll [] j)) := by
      rcases this with rfl | rfl | rfl | rfl <;> simp [setAll]
    have hf : (w.alloc (.cells #[.int .u8 0, .int .u8 0, .int .u8 0, .int .u8 0] 5)).frozen? ⟨w.heap.size, j, none⟩ = false := by simp
    exact ⟨cell_up _ (cell_up _ hc), frozen_up _ (cell_up _ hc) (frozen_up _ hc hf)⟩
  have hs0 : (((w.alloc (.cells #[.int .u8 0, .int .u8 0, .int .u8 0, .int .u8 0] 5)).alloc (.cells #[.slice (some ⟨w.heap.size, 0, none⟩) 4 4] 36)).alloc (.cells #[.int .u32 x] 22)).cell? ⟨w.heap.size + 1, 0, none⟩ = some (.slice (some ⟨w.heap.size, 0, none⟩) 4 4) := by simp (disch := simp) only [World.cell?_alloc_past, World.cell?_alloc_at]; rfl
  have hx0 : (((w.alloc (.cells #[.int .u8 0, .int .u8 0, .int .u8 0, .int .u8 0] 5)).alloc (.cells #[.slice (some ⟨w.heap.size, 0, none⟩) 4 4] 36)).alloc (.cells #[.int .u32 x] 22)).cell? ⟨w.heap.size + 1 + 1, 0, none⟩ = some (.int .u32 x) := by simp (disch := simp) only [World.cell?_alloc_at]; rfl
  have hB0 : Below w.heap.size w (((w.alloc (.cells #[.int .u8 0, .int .u8 0, .int .u8 0, .int .u8 0] 5)).alloc (.cells #[.slice (some ⟨w.heap.size, 0, none⟩) 4 4] 36)).alloc (.cells #[.int .u32 x] 22)) := ((bnew _ _).alloc (by simp) _).alloc (by simp; omega) _
  have hz0 : (((w.alloc (.cells #[.int .u8 0, .int .u8 0, .int .u8 0, .int .u8 0] 5)).alloc (.cells #[.slice (some ⟨w.heap.size, 0, none⟩) 4 4] 36)).alloc (.cells #[.int .u32 x] 22)).heap.size = w.heap.size + 3 := by simp
  generalize ((w.alloc (.cells #[.int .u8 0, .int .u8 0, .int .u8 0, .int .u8 0] 5)).alloc (.cells #[.slice (some ⟨w.heap.size, 0, none⟩) 4 4] 36)).alloc (.cells #[.int .u32 x] 22) = W0 at *
  clear hmk
  refine wpIn_rangeFunc_ownF hro h1 (gf := 121) (lb := #[.pointer (some ⟨w.heap.size + 1 + 1, 0, none⟩)]) rfl h67 (enters_of Tryz.func121 (by kernel_rfl) rfl)
    (seqStopsA_iff.1 (each_stops F (n - 1) h67 hro (by omega) (w.heap.size + 1 + 1) x hx W0 (by omega) hx0)) walksK_t walksK_b (Below.refl _ _) (fun _ => rfl)
    (fun pre W => (Four W w.heap.size (setAll pre) ∧ W.cell? ⟨w.heap.size + 1, 0, none⟩ = some (.slice (some ⟨w.heap.size, 0, none⟩) 4 4)) ∧ Below w.heap.size w W)
    (fun _ _ _ => False)
    (OwnFrom.and (Own.from (fun s A B row hs hg hr => ⟨fun j hj => ⟨cell_kept (hs.1 j hj).1 hg hr, (frozen_kept (hs.1 j hj).1 hg hr).trans (hs.1 j hj).2⟩, cell_kept hs.2 hg hr⟩) _) (ownFrom_below (Nat.le_refl _) (by omega)))
    (fun _ _ _ _ _ hs _ _ => hs)
    ⟨⟨hF0, hs0⟩, hB0⟩
    (fun p => { tmps := #[.int .u32 x, undef, .slice none 0 0, .pointer (some ⟨w.heap.size + 1, 0, none⟩), .int .i64 p.1.1, .int .u8 p.1.2, .slice (some ⟨w.heap.size, 0, none⟩) 4 4, .int .u32 x, .func (.func 121) #[] #[.pointer (some ⟨w.heap.size + 1 + 1, 0, none⟩)], .int .i64 p.1.1, .int .u8 p.1.2, undef, undef, undef, undef, undef], defers := [] }) ?assign ?body ?done ?stop
  case assign =>
    intro l p W K hK
    dsimp only [eachEnc]
    gi_wp2
    exact hK
  case body =>
    rintro l pre p W ⟨⟨hf, hs⟩, hB⟩ _
    have hsn := fun j => setAll_snoc pre p j
    obtain ⟨⟨i1, i2⟩, c1, c2⟩ := p.2
    generalize p.1.1 = i at *
    generalize p.1.2 = c at *
    have hj : i.toNat < 4 := by omega
    obtain ⟨f1, f2⟩ := hf i.toNat hj
    have HS := Lib.hid hsn
    clear hsn
    gi_wp2
    refine ⟨KeepsOthers.setCell _ _ _, KeepsWalks.setCell _ _ _, ⟨fun j hj' => ?_, ?_⟩, hB.setCell (p := ⟨w.heap.size, i.toNat, none⟩) (Nat.le_refl _) _⟩
    · rw [World.frozen?_setCell, HS.out]
      refine ⟨?_, (hf j hj').2⟩
      by_cases e : i.toNat = j
      · subst e
        rw [World.cell?_setCell_same' _ _ _ (by rw [f1]; rfl), if_pos rfl]
      · rw [World.cell?_setCell_other _ _ _ _ (by simp; try omega), (hf j hj').1, if_neg e]
    · rw [World.cell?_setCell_other _ _ _ _ (by simp), hs]
  case done =>
    rintro D ys W hD rfl ⟨⟨hf, hs⟩, hB⟩ hK
    gi_wp2
    refine ⟨by simp, .inl ⟨_, _, rfl, run_takeDeferred hK, ?_⟩⟩
    have hKB : Below w.heap.size W (W.putObj D (.deferred none)) := belowK_b (w := w) (Nat.le_refl _) W D _ _ (by omega) hK rfl rfl
    refine ⟨_, results_tmp rfl _ _ _, rfl, fun j hj => ?_, ?_, hB.trans hKB⟩
    · have g1 := cell_kept (hf j hj).1 (grownBy_putObj' W D (.deferred none)) (fun r e => by cases e; exact ⟨_, hK, rfl⟩)
      have g2 := (frozen_kept (hf j hj).1 (grownBy_putObj' W D (.deferred none)) (fun r e => by cases e; exact ⟨_, hK, rfl⟩)).trans (hf j hj).2
      rw [← setAll_all x j hj]
      exact ⟨g1, g2⟩
    · have := (Array.getElem?_eq_some_iff.1 hK).1
      simp
      omega
  case stop =>
    rintro D c pre W _ _ h _
    exact h.elim
theorem bytes_any (x : Int) (hx : U32 x) (w : World) : Calls Tryz.prog 40 #[.int .u32 x] w (BytesAt x w) :=
  (callsIn_wide (n := 3)).1 (bytes_in Fence.wide 3 trivial trivial trivial rfl (by decide) x hx w)
end Go.Proofs.YtopfaapcekiojaaGreat
