/- Logical immediates: the iterator over the sizes of elements, and find. -/
import Derived.Test.YtopfaapcekiojaaGreatLogF
import Derived.Test.YtopfaapcekiojaaGreatPopW
import Derived.Test.YtopfaapcekiojaaGreatEachW
namespace Go.Proofs.YtopfaapcekiojaaGreat
open Go.RowKit Go.Sort Go.Shelf
attribute [local go_sem] Oper.semAt_some
set_option linter.unusedVariables false

/-- a size that is told -/
def SzX (w : Int) : Type := { z : Int // Sz1 z ∧ z ≤ w }
def szEnc {w : Int} (z : SzX w) : Array Value := #[.int .i64 z.1]
def szm (w z : Int) (h : Sz1 z ∧ z ≤ w) : SzX w := ⟨z, h⟩
/-- the size of a round -/
def szAt : Nat → Int
  | 0 => 2
  | 1 => 4
  | 2 => 8
  | 3 => 16
  | 4 => 32
  | 5 => 64
  | _ => 128
def szL32 : List (SzX 32) := [szm 32 2 (by unfold Sz1; decide), szm 32 4 (by unfold Sz1; decide), szm 32 8 (by unfold Sz1; decide), szm 32 16 (by unfold Sz1; decide), szm 32 32 (by unfold Sz1; decide)]
def szL64 : List (SzX 64) := [szm 64 2 (by unfold Sz1; decide), szm 64 4 (by unfold Sz1; decide), szm 64 8 (by unfold Sz1; decide), szm 64 16 (by unfold Sz1; decide), szm 64 32 (by unfold Sz1; decide), szm 64 64 (by unfold Sz1; decide)]
set_option maxRecDepth 100000 in
set_option maxHeartbeats 4000000 in
theorem sizes_stops (F : Fence) (n : Nat) (hF : F.fn 175) (hro : F.round = none) (hn : 1 ≤ n) (Bw n₀ : Nat) (v : Int) (hv : v = 32 ∨ v = 64) (w : World) (hb : Bw < n₀) (hb2 : n₀ ≤ w.heap.size) (hc : w.cell? ⟨Bw, 0, none⟩ = some (.int .i64 v)) :
    SeqStopsK F n Tryz.prog 175 #[.pointer (some ⟨Bw, 0, none⟩)] (szEnc (w := v)) (Below n₀) (fun xs => (xs.map (fun y => y.1)).contains v = true) (fun xs => (xs.map (fun y => y.1)).isPrefixOf [2, 4, 8, 16, 32, 64] = true) 6 w := fun l J Jx W hW _ _ hY h0 => by
  have hc' := (hW.cell (p := ⟨Bw, 0, none⟩) (by simp; omega)).trans hc
  refine callsIn_of_wp Tryz.func175 rfl hF ?_ hro
  simp only [Tryz.ntmps175, List.size_toArray, List.length_cons, List.length_nil, Nat.reduceAdd, Nat.reduceSub, Array.replicate_succ, Array.replicate_zero, List.push_toArray, List.append_toArray, List.nil_append, List.cons_append]
  gi_wp2
  rcases hv with rfl | rfl
  · gi_loopw [3] (fun i wr => ∃ k : Nat, k ≤ 5 ∧ i = .int .i64 (szAt k) ∧ J (szL32.take k) wr ∧ wr.cell? ⟨Bw, 0, none⟩ = some (.int .i64 32)) (fun i _ => 200 - (intOf i).toNat)
    case atStart => exact ⟨0, by omega, rfl, h0, hc'⟩
    case round =>
      obtain ⟨k, hk, rfl, hJs, hcs⟩ := hrel
      have hk' : k = 0 ∨ k = 1 ∨ k = 2 ∨ k = 3 ∨ k = 4 ∨ k = 5 := by omega
      rcases hk' with rfl | rfl | rfl | rfl | rfl | rfl
      · obtain ⟨fn, tmps, assign, body, hy, hR⟩ := hY _ (szm 32 2 (by unfold Sz1; decide)) wr hJs (by decide)
        rw [show szEnc (szm 32 2 (by unfold Sz1; decide)) = #[.int .i64 2] from rfl] at hy
        rw [show szAt 0 = 2 from rfl]
        gi_wp2
        refine hR.mono ?_
        rintro e W3 (⟨rfl, hJ3, hk3⟩ | ⟨rfl, hJx3⟩)
        · have hc3 := (hk3.cell (p := ⟨Bw, 0, none⟩) hb).trans hcs
          gi_wp2
          go_roundw
          case rel => exact ⟨1, by omega, by first | rfl | simp [szAt], hJ3, hc3⟩
          case measure => simp [intOf]
        · gi_wp2
          go_end0
          exact ⟨⟨_, rfl⟩, .inr ⟨_, by decide, hJx3⟩⟩
      · obtain ⟨fn, tmps, assign, body, hy, hR⟩ := hY _ (szm 32 4 (by unfold Sz1; decide)) wr hJs (by decide)
        rw [show szEnc (szm 32 4 (by unfold Sz1; decide)) = #[.int .i64 4] from rfl] at hy
        rw [show szAt 1 = 4 from rfl]
        gi_wp2
        refine hR.mono ?_
        rintro e W3 (⟨rfl, hJ3, hk3⟩ | ⟨rfl, hJx3⟩)
        · have hc3 := (hk3.cell (p := ⟨Bw, 0, none⟩) hb).trans hcs
          gi_wp2
          go_roundw
          case rel => exact ⟨2, by omega, by first | rfl | simp [szAt], hJ3, hc3⟩
          case measure => simp [intOf]
        · gi_wp2
          go_end0
          exact ⟨⟨_, rfl⟩, .inr ⟨_, by decide, hJx3⟩⟩
      · obtain ⟨fn, tmps, assign, body, hy, hR⟩ := hY _ (szm 32 8 (by unfold Sz1; decide)) wr hJs (by decide)
        rw [show szEnc (szm 32 8 (by unfold Sz1; decide)) = #[.int .i64 8] from rfl] at hy
        rw [show szAt 2 = 8 from rfl]
        gi_wp2
        refine hR.mono ?_
        rintro e W3 (⟨rfl, hJ3, hk3⟩ | ⟨rfl, hJx3⟩)
        · have hc3 := (hk3.cell (p := ⟨Bw, 0, none⟩) hb).trans hcs
          gi_wp2
          go_roundw
          case rel => exact ⟨3, by omega, by first | rfl | simp [szAt], hJ3, hc3⟩
          case measure => simp [intOf]
        · gi_wp2
          go_end0
          exact ⟨⟨_, rfl⟩, .inr ⟨_, by decide, hJx3⟩⟩
      · obtain ⟨fn, tmps, assign, body, hy, hR⟩ := hY _ (szm 32 16 (by unfold Sz1; decide)) wr hJs (by decide)
        rw [show szEnc (szm 32 16 (by unfold Sz1; decide)) = #[.int .i64 16] from rfl] at hy
        rw [show szAt 3 = 16 from rfl]
        gi_wp2
        refine hR.mono ?_
        rintro e W3 (⟨rfl, hJ3, hk3⟩ | ⟨rfl, hJx3⟩)
        · have hc3 := (hk3.cell (p := ⟨Bw, 0, none⟩) hb).trans hcs
          gi_wp2
          go_roundw
          case rel => exact ⟨4, by omega, by first | rfl | simp [szAt], hJ3, hc3⟩
          case measure => simp [intOf]
        · gi_wp2
          go_end0
          exact ⟨⟨_, rfl⟩, .inr ⟨_, by decide, hJx3⟩⟩
      · obtain ⟨fn, tmps, assign, body, hy, hR⟩ := hY _ (szm 32 32 (by unfold Sz1; decide)) wr hJs (by decide)
        rw [show szEnc (szm 32 32 (by unfold Sz1; decide)) = #[.int .i64 32] from rfl] at hy
        rw [show szAt 4 = 32 from rfl]
        gi_wp2
        refine hR.mono ?_
        rintro e W3 (⟨rfl, hJ3, hk3⟩ | ⟨rfl, hJx3⟩)
        · have hc3 := (hk3.cell (p := ⟨Bw, 0, none⟩) hb).trans hcs
          gi_wp2
          go_roundw
          case rel => exact ⟨5, by omega, by first | rfl | simp [szAt], hJ3, hc3⟩
          case measure => simp [intOf]
        · gi_wp2
          go_end0
          exact ⟨⟨_, rfl⟩, .inr ⟨_, by decide, hJx3⟩⟩
      · rw [show szAt 5 = 64 from rfl]
        gi_wp2
        refine ⟨fun _ h => (by cases h), ?_⟩
        gi_wp2
        go_end0
        exact ⟨⟨_, rfl⟩, .inl ⟨_, by decide, hJs⟩⟩
  · gi_loopw [3] (fun i wr => ∃ k : Nat, k ≤ 6 ∧ i = .int .i64 (szAt k) ∧ J (szL64.take k) wr ∧ wr.cell? ⟨Bw, 0, none⟩ = some (.int .i64 64)) (fun i _ => 200 - (intOf i).toNat)
    case atStart => exact ⟨0, by omega, rfl, h0, hc'⟩
    case round =>
      obtain ⟨k, hk, rfl, hJs, hcs⟩ := hrel
      have hk' : k = 0 ∨ k = 1 ∨ k = 2 ∨ k = 3 ∨ k = 4 ∨ k = 5 ∨ k = 6 := by omega
      rcases hk' with rfl | rfl | rfl | rfl | rfl | rfl | rfl
      · obtain ⟨fn, tmps, assign, body, hy, hR⟩ := hY _ (szm 64 2 (by unfold Sz1; decide)) wr hJs (by decide)
        rw [show szEnc (szm 64 2 (by unfold Sz1; decide)) = #[.int .i64 2] from rfl] at hy
        rw [show szAt 0 = 2 from rfl]
        gi_wp2
        refine hR.mono ?_
        rintro e W3 (⟨rfl, hJ3, hk3⟩ | ⟨rfl, hJx3⟩)
        · have hc3 := (hk3.cell (p := ⟨Bw, 0, none⟩) hb).trans hcs
          gi_wp2
          go_roundw
          case rel => exact ⟨1, by omega, by first | rfl | simp [szAt], hJ3, hc3⟩
          case measure => simp [intOf]
        · gi_wp2
          go_end0
          exact ⟨⟨_, rfl⟩, .inr ⟨_, by decide, hJx3⟩⟩
      · obtain ⟨fn, tmps, assign, body, hy, hR⟩ := hY _ (szm 64 4 (by unfold Sz1; decide)) wr hJs (by decide)
        rw [show szEnc (szm 64 4 (by unfold Sz1; decide)) = #[.int .i64 4] from rfl] at hy
        rw [show szAt 1 = 4 from rfl]
        gi_wp2
        refine hR.mono ?_
        rintro e W3 (⟨rfl, hJ3, hk3⟩ | ⟨rfl, hJx3⟩)
        · have hc3 := (hk3.cell (p := ⟨Bw, 0, none⟩) hb).trans hcs
          gi_wp2
          go_roundw
          case rel => exact ⟨2, by omega, by first | rfl | simp [szAt], hJ3, hc3⟩
          case measure => simp [intOf]
        · gi_wp2
          go_end0
          exact ⟨⟨_, rfl⟩, .inr ⟨_, by decide, hJx3⟩⟩
      · obtain ⟨fn, tmps, assign, body, hy, hR⟩ := hY _ (szm 64 8 (by unfold Sz1; decide)) wr hJs (by decide)
        rw [show szEnc (szm 64 8 (by unfold Sz1; decide)) = #[.int .i64 8] from rfl] at hy
        rw [show szAt 2 = 8 from rfl]
        gi_wp2
        refine hR.mono ?_
        rintro e W3 (⟨rfl, hJ3, hk3⟩ | ⟨rfl, hJx3⟩)
        · have hc3 := (hk3.cell (p := ⟨Bw, 0, none⟩) hb).trans hcs
          gi_wp2
          go_roundw
          case rel => exact ⟨3, by omega, by first | rfl | simp [szAt], hJ3, hc3⟩
          case measure => simp [intOf]
        · gi_wp2
          go_end0
          exact ⟨⟨_, rfl⟩, .inr ⟨_, by decide, hJx3⟩⟩
      · obtain ⟨fn, tmps, assign, body, hy, hR⟩ := hY _ (szm 64 16 (by unfold Sz1; decide)) wr hJs (by decide)
        rw [show szEnc (szm 64 16 (by unfold Sz1; decide)) = #[.int .i64 16] from rfl] at hy
        rw [show szAt 3 = 16 from rfl]
        gi_wp2
        refine hR.mono ?_
        rintro e W3 (⟨rfl, hJ3, hk3⟩ | ⟨rfl, hJx3⟩)
        · have hc3 := (hk3.cell (p := ⟨Bw, 0, none⟩) hb).trans hcs
          gi_wp2
          go_roundw
          case rel => exact ⟨4, by omega, by first | rfl | simp [szAt], hJ3, hc3⟩
          case measure => simp [intOf]
        · gi_wp2
          go_end0
          exact ⟨⟨_, rfl⟩, .inr ⟨_, by decide, hJx3⟩⟩
      · obtain ⟨fn, tmps, assign, body, hy, hR⟩ := hY _ (szm 64 32 (by unfold Sz1; decide)) wr hJs (by decide)
        rw [show szEnc (szm 64 32 (by unfold Sz1; decide)) = #[.int .i64 32] from rfl] at hy
        rw [show szAt 4 = 32 from rfl]
        gi_wp2
        refine hR.mono ?_
        rintro e W3 (⟨rfl, hJ3, hk3⟩ | ⟨rfl, hJx3⟩)
        · have hc3 := (hk3.cell (p := ⟨Bw, 0, none⟩) hb).trans hcs
          gi_wp2
          go_roundw
          case rel => exact ⟨5, by omega, by first | rfl | simp [szAt], hJ3, hc3⟩
          case measure => simp [intOf]
        · gi_wp2
          go_end0
          exact ⟨⟨_, rfl⟩, .inr ⟨_, by decide, hJx3⟩⟩
      · obtain ⟨fn, tmps, assign, body, hy, hR⟩ := hY _ (szm 64 64 (by unfold Sz1; decide)) wr hJs (by decide)
        rw [show szEnc (szm 64 64 (by unfold Sz1; decide)) = #[.int .i64 64] from rfl] at hy
        rw [show szAt 5 = 64 from rfl]
        gi_wp2
        refine hR.mono ?_
        rintro e W3 (⟨rfl, hJ3, hk3⟩ | ⟨rfl, hJx3⟩)
        · have hc3 := (hk3.cell (p := ⟨Bw, 0, none⟩) hb).trans hcs
          gi_wp2
          go_roundw
          case rel => exact ⟨6, by omega, by first | rfl | simp [szAt], hJ3, hc3⟩
          case measure => simp [intOf]
        · gi_wp2
          go_end0
          exact ⟨⟨_, rfl⟩, .inr ⟨_, by decide, hJx3⟩⟩
      · rw [show szAt 6 = 128 from rfl]
        gi_wp2
        refine ⟨fun _ h => (by cases h), ?_⟩
        gi_wp2
        go_end0
        exact ⟨⟨_, rfl⟩, .inl ⟨_, by decide, hJs⟩⟩
end Go.Proofs.YtopfaapcekiojaaGreat
