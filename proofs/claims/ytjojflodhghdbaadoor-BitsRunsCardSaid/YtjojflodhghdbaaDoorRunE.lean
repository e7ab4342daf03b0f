/- slices.Equal over runs; bytes.Equal over a word's bytes; the reference's Bytes and Word. -/
import Derived.Test.YtjojflodhghdbaaDoorRunQ
import Derived.Test.YtjojflodhghdbaaDoorWordW
import Derived.Test.YtjojflodhghdbaaDoorSliceW
import Derived.Laws.BytesArg
namespace Go.Proofs.YtjojflodhghdbaaDoor
open Go.RowKit Go.Sort Go.Shelf Go.Joins
attribute [local go_sem] cell_gr frozen_gr
set_option linter.unusedVariables false

set_option maxRecDepth 100000 in
set_option maxHeartbeats 4000000 in
theorem runs_equal (b1 b2 : Nat) (v1 v2 : Value) (L : List (Nat × Nat)) (w : World) (h1 : RunRow w b1 v1 L) (h2 : RunRow w b2 v2 L) (hL : L.length ≤ 64) :
    Calls Tryd.prog 13 #[v1, v2] w (Ret (.bool true) w) := by
  have l1 := h1.len
  have l2 := h2.len
  go_enter Tryd.func13, Tryd.ntmps13
  go_wp2
  go_loopw [13] (fun i wr => ∃ k : Nat, k ≤ L.length ∧ i = .int .i64 k ∧ Below w.heap.size w wr) (fun i _ => (L.length - intOf i).toNat)
  case atStart => exact ⟨0, by omega, rfl, Below.refl _ _⟩
  case round =>
    obtain ⟨k, hk, rfl, hB⟩ := hrel
    by_cases hlt : k < L.length
    · obtain ⟨g, cap, rfl, hcell⟩ := (h1.below hB).cells (by omega)
      obtain ⟨g2, cap2, rfl, hcell2⟩ := (h2.below hB).cells (by omega)
      obtain ⟨p, hp⟩ : ∃ p, L[k]? = some p := ⟨_, List.getElem?_eq_getElem hlt⟩
      obtain ⟨y0, y1⟩ := hcell _ _ hp
      obtain ⟨z0, z1⟩ := hcell2 _ _ hp
      rw [Nat.mul_comm] at y0 y1 z0 z1
      have yg : g < wr.heap.size := block_lt_of_cell y0
      have zg : g2 < wr.heap.size := block_lt_of_cell z0
      clear hcell hcell2 hp
      go_wp2
      refine wp_region_quiet_below (by kernel_rfl) (by kernel_rfl) ?_
      repeat (go_big_quiet_step (fail))
      refine wpQuiet_nil ?_
      intro w2 hw2
      have hB2 := bthen hB (of_gr hw2) hB.size
      clear hw2
      go_wp2
      go_roundw
      case rel => exact ⟨k + 1, by omega, by simp, hB2⟩
      case measure => simp [intOf]; omega
    · obtain rfl : k = L.length := by omega
      go_wp2
      go_ret
      exact ⟨by simp, hB⟩
set_option maxRecDepth 100000 in
theorem bytes_equal (g1 g2 : Nat) (x : Int) (w : World) (h1 : Four w g1 (byteI x)) (h2 : Four w g2 (byteI x)) :
    Calls Tryd.prog 15 #[.slice (some ⟨g1, 0, none⟩) 4 4, .slice (some ⟨g2, 0, none⟩) 4 4] w (Ret (.bool true) w) := by
  have k : ∀ g, Four w g (byteI x) → (convert 35 9 (.slice (some ⟨g, 0, none⟩) 4 4)).run Tryd.prog w = .ok (.string (strOfNums [byteI x 0, byteI x 1, byteI x 2, byteI x 3])) w := fun g h =>
    run_convert_bytes_arg (P := Tryd.prog) w 35 5 Tryd.underlying35 Tryd.underlying5 g 0 4 4 _ rfl (fun i hi => by
      have := (h i hi).1
      rw [Nat.zero_add, this]
      have hi' : i = 0 ∨ i = 1 ∨ i = 2 ∨ i = 3 := by omega
      rcases hi' with rfl | rfl | rfl | rfl <;> rfl) 9 Tryd.underlying9
  have k1 := k g1 h1
  have k2 := k g2 h2
  clear k
  go_enter Tryd.func15, Tryd.ntmps15
  go_wp2
  go_ret
  exact ⟨by simp, Below.refl _ _⟩
set_option maxRecDepth 100000 in
theorem rbytes_any (x : Int) (hx : U32 x) (w : World) : Calls Tryd.prog 17 #[.int .u32 x] w (BytesAt x w) := by
  obtain ⟨x1, x2⟩ := hx
  go_enter Tryd.func17, Tryd.ntmps17
  go_wp2
  go_ret
  refine ⟨rfl, fun j hj => ?_, by simp, bnew _ _⟩
  have hj' : j = 0 ∨ j = 1 ∨ j = 2 ∨ j = 3 := by omega
  rcases hj' with rfl | rfl | rfl | rfl <;> simp [byteI]
  omega
theorem rword_any (A : Option Addr) (n ca : Nat) (l : List Int) (w : World) (hl : BRow w A n l) (hn : n ≤ 9223372036854775807) :
    Calls Tryd.prog 12 #[.slice A n ca] w (Ret (.tuple #[.int .u32 (wordI l), .int .i64 (wordE l)]) w) := by
  by_cases h4 : n = 4
  · subst h4
    obtain ⟨hl1, hl2, hl3⟩ := hl
    obtain ⟨b, off, rfl, hb, hc⟩ := hl3 (by decide)
    obtain ⟨c0, c1, c2, c3, rfl⟩ : ∃ c0 c1 c2 c3, l = [c0, c1, c2, c3] := by
      match l, hl1 with
      | [c0, c1, c2, c3], _ => exact ⟨c0, c1, c2, c3, rfl⟩
    have f0 := hc 0 (by simp)
    have f1 := hc 1 (by simp)
    have f2 := hc 2 (by simp)
    have f3 := hc 3 (by simp)
    obtain ⟨a0, b0⟩ := hl2 c0 (by simp)
    obtain ⟨a1, b1⟩ := hl2 c1 (by simp)
    obtain ⟨a2, b2⟩ := hl2 c2 (by simp)
    obtain ⟨a3, b3⟩ := hl2 c3 (by simp)
    simp only [List.getElem_cons_zero, List.getElem_cons_succ, Nat.add_zero] at f0 f1 f2 f3
    clear hc hl2 hl3 hl1 hn
    have eW : wordI [c0, c1, c2, c3] = c0 + c1 * 256 + c2 * 65536 + c3 * 16777216 := by unfold wordI; simp [wordN]; omega
    have eE : wordE [c0, c1, c2, c3] = 0 := rfl
    rw [eW, eE]
    clear eW eE
    go_enter Tryd.func12, Tryd.ntmps12
    go_wp2
    refine wp_region_quiet_below (by kernel_rfl) (by kernel_rfl) ?_
    repeat (go_big_quiet_step (fail))
    refine wpQuiet_nil ?_
    intro w2 hw2
    have hB2 := of_gr hw2
    clear hw2
    go_wp2
    go_ret2
    exact ⟨by rw [Int.mul_comm c1, Int.mul_comm c2, Int.mul_comm c3]; rfl, hB2⟩
  · have e1 : wordI l = 0 := if_neg (by rw [hl.1]; exact h4)
    have e2 : wordE l = 3 := if_neg (by rw [hl.1]; exact h4)
    rw [e1, e2]
    have hne : ((n : Int) != 4) = true := by rw [bne_iff_ne]; omega
    clear e1 e2 hl
    go_enter Tryd.func12, Tryd.ntmps12
    go_wp2
    go_ret2
    exact ⟨rfl, Below.refl _ _⟩
theorem brow_of {w : World} {A : Option Addr} {n : Nat} {rows : List (List Value)} (h : RowsOf w A n [isInt .u8] rows) : ∃ l, BRow w A n l := by
  obtain ⟨h1, h2, h3⟩ := h
  have form : ∀ r ∈ rows, ∃ a, r = [.int .u8 a] ∧ 0 ≤ a ∧ a < 256 := fun r hr => by
    obtain ⟨v0, r1, rfl, ⟨a, rfl, wa⟩, q1⟩ := fits_cons (h2 r hr)
    obtain rfl := fits_nil q1
    exact ⟨a, rfl, u8_wf wa⟩
  refine ⟨rows.map fun r => numOf (r.getD 0 undef), by simpa using h1, fun f hf => ?_, fun hn => ?_⟩
  · obtain ⟨r, hr, rfl⟩ := List.mem_map.1 hf
    obtain ⟨a, rfl, ia⟩ := form r hr
    exact ia
  · obtain ⟨b, off, rfl, hb, hc⟩ := h3 hn
    refine ⟨b, off, rfl, hb, fun k hk => ?_⟩
    have hk' : k < rows.length := by simpa using hk
    obtain ⟨x, e, ix⟩ := form rows[k] (List.getElem_mem hk')
    have c0 := hc k hk' 0 (by simp)
    simp only [List.length_cons, List.length_nil, Nat.zero_add, Nat.add_zero, Nat.mul_one] at c0
    rw [e] at c0
    rw [List.getElem_map, e]
    exact c0
end Go.Proofs.YtjojflodhghdbaaDoor
