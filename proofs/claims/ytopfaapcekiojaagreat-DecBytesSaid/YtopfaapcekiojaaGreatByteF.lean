/- The reference's Count. -/
import Derived.Test.YtopfaapcekiojaaGreatByteC
import Derived.Test.YtopfaapcekiojaaGreatByteL
import Derived.Deep.WholeRow
import Derived.Deep.MidRow
namespace Go.Proofs.YtopfaapcekiojaaGreat
open Go.RowKit Go.Sort Go.Shelf Sym Two
attribute [local go_sem] cell_gr frozen_gr
set_option linter.unusedVariables false
set_option linter.unusedSimpArgs false

theorem count_bad (A : Option Addr) (n ca : Nat) (w : World) (hn : n ≤ 2000) (h4 : ¬ n % 4 = 0) :
    Calls Tryz.prog 18 #[.slice A n ca] w (Ret (.tuple #[.slice none 0 0, .int .i64 1]) w) := by
  have hm4 : ((n : Int) % 4 == 0) = false := by simp; omega
  go_enter Tryz.func18, Tryz.ntmps18
  go_wp2
  go_ret2
  exact ⟨rfl, Below.refl _ _⟩
theorem rcount_bad (A : Option Addr) (n ca : Nat) (w : World) (hn : n ≤ 2000) (h4 : ¬ n % 4 = 0) :
    Calls Tryz.prog 19 #[.slice A n ca] w (Ret (.tuple #[.slice none 0 0, .int .i64 1]) w) := by
  have hm4 : ((n : Int) % 4 == 0) = false := by simp; omega
  go_enter Tryz.func19, Tryz.ntmps19
  go_wp2
  go_ret2
  exact ⟨rfl, Below.refl _ _⟩
set_option maxRecDepth 100000 in
set_option maxHeartbeats 4000000 in
theorem rcount_any (A : Option Addr) (n ca : Nat) (l : List Int) (hl : Bys l) (w : World) (hr : BRow w A n l) (hn : n ≤ 2000) (h4 : n % 4 = 0) :
    Calls Tryz.prog 19 #[.slice A n ca] w (CountB w (bxL l hl (n / 4))) := by
  have hm4 : (n : Int) % 4 = 0 := by omega
  have hmk := make33
  have hW1 : Below w.heap.size w (w.alloc (.cells zero33 3)) := (Below.refl _ w).alloc (Nat.le_refl _) _
  have hwd := rwds_any A n ca l _ (hr.keep hW1) hn
  go_enter Tryz.func19, Tryz.ntmps19
  go_wp2_with (go_at_call 15; refine hwd.mono ?_; rintro e W0 ⟨v, rfl, hrw, hb1⟩)
  clear hwd hmk
  have r0 : W0.ownsRow w.heap.size 3 1 (.slice (some ⟨w.heap.size, 0, none⟩) 33 33) 33 (rowC (bxL l hl 0)) := row_below' (World.ownsRow_lit w zero33 33 (Nat.le_refl _) (by unfold maxLen; omega) rfl) hb1
  have hB0 : Below w.heap.size w W0 := bthen hW1 hb1 hW1.size
  rw [World.size_alloc] at hrw
  have hlv := len_wd hrw
  clear hb1 hW1
  go_loopw [6] (fun i wr => ∃ k : Nat, k ≤ n / 4 ∧ i = .int .i64 k ∧ wr.ownsRow w.heap.size 3 1 (.slice (some ⟨w.heap.size, 0, none⟩) 33 33) 33 (rowC (bxL l hl k)) ∧ wr.ownsRow (w.heap.size + 1) 22 1 v (n / 4) (wdsK l (n / 4)) ∧ Below w.heap.size w wr) (fun i _ => (n / 4 - (RowKit.intOf i).toNat))
  case atStart => exact ⟨0, by omega, rfl, r0, hrw, hB0⟩
  case round =>
    clear r0 hrw hB0
    obtain ⟨k, hk, rfl, hr1, hrw, hB⟩ := hrel
    by_cases hlt : k < n / 4
    · rcases hrw.2 with ⟨_, h0⟩ | ⟨g, cap, cur, rfl, hg1, _⟩
      · omega
      have x1 : wr.cell? ⟨g, k, none⟩ = some (.int .u32 (wdOf l k)) := by
        rw [World.ownsRow.cellAt hrw k (by omega)]
        simp [wdsK, hlt]
      have hd := d_is (wdOf l k) (wdOf_u32 hl k)
      obtain ⟨c, hc⟩ := Int.eq_ofNat_of_zero_le hd.2.1
      have hc33 : c < 33 := by have := hd.2.2.1; omega
      have hcn : ((c : Nat) : Int).toNat = c := Int.toNat_natCast c
      have hdc := hd.2.2.2.2
      have hcl := cntX_le (bxL l hl k) c
      rw [bxL_len] at hcl
      have hset := rowC_set (bxL l hl k) (bxAt l hl k) c hc hc33
      rw [← bxL_succ] at hset
      replace hset := Lib.hid hset
      rw [val_cells'] at hdc
      have hyc : ∀ W : World, (W.alloc (.cells (cellsI' (dY (wdOf l k))).toArray 24)).cell? ⟨W.heap.size, 0, none⟩ = some (.int .i64 c) := fun W => by
        simp only [World.cell?, World.alloc_heap_new, cellsI', hc]
        rfl
      have hw1 : wrap64 (((cntX (bxL l hl k) c : Nat) : Int) + 1) = ((cntX (bxL l hl k) c : Nat) : Int) + 1 := IntWalk.wrap64_in _ (by omega)
      have hget := rowC_get (bxL l hl k) c hc33
      generalize hyv : dY (wdOf l k) = y at *
      generalize dZ (wdOf l k) = z at *
      generalize cntX (bxL l hl k) c = q at *
      clear hd hyv
      go_wp2_with (first
        | (go_at_call 9; refine (hdc _).mono ?_; rintro e w2 ⟨rfl, hb2⟩; have hr2 := row_below' hr1 hb2; have hrw2 := row_below' hrw hb2; have hr3 := hr2.alloc (.cells (cellsI' y).toArray 24); have hrw3 := hrw2.alloc (.cells (cellsI' y).toArray 24); have y0 : (w2.alloc (.cells (cellsI' y).toArray 24)).cell? ⟨w.heap.size, c, none⟩ = some (.int .i64 q) := (by rw [World.ownsRow.cellAt hr3 c (by omega), hget]); have f0 := World.ownsRow.frozenAt hr3 c; have hz2 := Nat.le_trans hB.size hb2.size; have hyw := hyc w2)
        | (show wpList _ _ _ ({ dst := _, op := Op.store 24 _ _, type := _, pos := _, after := _, guard := _ } :: _) _ _; refine wpList_store_row rfl 24 _ _ rfl w2.heap.size (cellsI' y).toArray rfl rfl 24 _ (World.alloc_heap_new _ _) (by kernel_rfl) (by simp [cellsI']) (by simp [cellsI', Value.oneCell']) ?_; rw [World.setRow_alloc_new]))
      have hst := World.ownsRow.stored hr3 c (.int .i64 ((q : Int) + 1))
      rw [hset.out] at hst
      refine ⟨⟨k + 1, by omega, by simp, hst.1, hrw3.kept hst.2 ?_, ?_⟩, by simp [RowKit.intOf]; omega⟩
      · refine .inr fun e => ?_
        have : g = w.heap.size := by simpa [Value.ownBlock] using e
        omega
      · exact ((bthen hB hb2 hB.size).alloc hz2 _).setCell (p := ⟨w.heap.size, c, none⟩) (Nat.le_refl _) _
    · obtain rfl : k = n / 4 := by omega
      go_wp2
      go_ret2
      exact ⟨_, rfl, hr1, hB⟩
end Go.Proofs.YtopfaapcekiojaaGreat

/- slices.Equal over words and over counts, where they are the same. -/
namespace Go.Proofs.YtopfaapcekiojaaGreat
open Go.RowKit Go.Sort Go.Shelf Sym Two
attribute [local go_sem] cell_gr frozen_gr
set_option linter.unusedVariables false
set_option linter.unusedSimpArgs false

/-- a slice of one-cell values -/
def RowE (W : World) (v : Value) (n : Nat) (xs : List Value) : Prop := ∃ A cap, v = .slice A n cap ∧ n ≤ 600 ∧ (0 < n → ∃ g, A = some ⟨g, 0, none⟩ ∧ g < W.heap.size ∧ ∀ j, j < n → W.cell? ⟨g, j, none⟩ = xs[j]?)
theorem RowE.keep {W W' : World} {v : Value} {n : Nat} {xs : List Value} (h : RowE W v n xs) (hb : Below W.heap.size W W') : RowE W' v n xs := by
  obtain ⟨A, cap, e, h6, hc⟩ := h
  refine ⟨A, cap, e, h6, fun hn => ?_⟩
  obtain ⟨g, e', hg, hcell⟩ := hc hn
  refine ⟨g, e', Nat.lt_of_lt_of_le hg hb.size, fun j hj => ?_⟩
  rw [hb.cell (p := ⟨g, j, none⟩) hg]
  exact hcell j hj
theorem rowE_own {W : World} {base n : Nat} {e : TypeId} {v : Value} {xs : List Value} (h : W.ownsRow base e 1 v n xs) (hn : n ≤ 600) : RowE W v n xs := by
  rcases h.2 with ⟨rfl, h0⟩ | ⟨g, cap, cur, rfl, _, hg, _⟩
  · exact ⟨none, 0, by rw [h0], hn, fun h => by omega⟩
  · exact ⟨_, cap, rfl, hn, fun _ => ⟨g, rfl, (Array.getElem?_eq_some_iff.1 hg).1, fun j hj => World.ownsRow.cellAt h j (by omega)⟩⟩
/-- the first m of them -/
theorem rowE_take {W : World} {A : Option Addr} {n cap m : Nat} {xs : List Value} (h : RowE W (.slice A n cap) n xs) (hm : m ≤ n) : RowE W (.slice A m cap) m xs := by
  obtain ⟨A', cap', e, h6, hc⟩ := h
  cases e
  refine ⟨_, _, rfl, by omega, fun h0 => ?_⟩
  obtain ⟨g, e', hg, hcell⟩ := hc (by omega)
  exact ⟨g, e', hg, fun j hj => hcell j (by omega)⟩
set_option maxRecDepth 100000 in
set_option maxHeartbeats 4000000 in
theorem wd_equal (v1 v2 : Value) (n : Nat) (xs ys : List Value) (w : World) (h1 : RowE w v1 n xs) (h2 : RowE w v2 n ys) (hv : ∀ j, j < n → ∃ a, xs[j]? = some (.int .u32 a) ∧ ys[j]? = some (.int .u32 a)) :
    Calls Tryz.prog 20 #[v1, v2] w (Ret (.bool true) w) := by
  obtain ⟨A1, c1, rfl, h6, hc1⟩ := h1
  obtain ⟨A2, c2, rfl, _, hc2⟩ := h2
  go_enter Tryz.func20, Tryz.ntmps20
  go_wp2
  go_loopw [13] (fun i wr => ∃ k : Nat, k ≤ n ∧ i = .int .i64 k ∧ Below w.heap.size w wr) (fun i _ => (n - RowKit.intOf i).toNat)
  case atStart => exact ⟨0, by omega, rfl, Below.refl _ _⟩
  case round =>
    obtain ⟨k, hk, rfl, hB⟩ := hrel
    by_cases hlt : k < n
    · obtain ⟨g1, rfl, hg1, hcell1⟩ := hc1 (by omega)
      obtain ⟨g2, rfl, hg2, hcell2⟩ := hc2 (by omega)
      obtain ⟨a, ha1, ha2⟩ := hv k hlt
      have y0 := (hB.cell (p := ⟨g1, k, none⟩) hg1).trans ((hcell1 k hlt).trans ha1)
      have z0 := (hB.cell (p := ⟨g2, k, none⟩) hg2).trans ((hcell2 k hlt).trans ha2)
      have yg : g1 < wr.heap.size := block_lt_of_cell y0
      have zg : g2 < wr.heap.size := block_lt_of_cell z0
      clear hcell1 hcell2 ha1 ha2 hc1 hc2 hv
      go_wp2
      refine wp_region_quiet_below (by kernel_rfl) (by kernel_rfl) ?_
      repeat (go_big_quiet_step (fail))
      refine wpQuiet_nil ?_
      intro w2 hw2
      have hB2 := bthen hB (of_gr hw2) hB.size
      clear hw2
      go_wp2
      go_roundw
      case rel => exact ⟨k + 1, by omega, by simp, hB2⟩
      case measure => simp [RowKit.intOf]; omega
    · obtain rfl : k = n := by omega
      go_wp2
      go_ret
      exact ⟨by simp, hB⟩
set_option maxRecDepth 100000 in
set_option maxHeartbeats 4000000 in
theorem int_equal (v1 v2 : Value) (n : Nat) (xs ys : List Value) (w : World) (h1 : RowE w v1 n xs) (h2 : RowE w v2 n ys) (hv : ∀ j, j < n → ∃ a, xs[j]? = some (.int .i64 a) ∧ ys[j]? = some (.int .i64 a)) :
    Calls Tryz.prog 21 #[v1, v2] w (Ret (.bool true) w) := by
  obtain ⟨A1, c1, rfl, h6, hc1⟩ := h1
  obtain ⟨A2, c2, rfl, _, hc2⟩ := h2
  go_enter Tryz.func21, Tryz.ntmps21
  go_wp2
  go_loopw [13] (fun i wr => ∃ k : Nat, k ≤ n ∧ i = .int .i64 k ∧ Below w.heap.size w wr) (fun i _ => (n - RowKit.intOf i).toNat)
  case atStart => exact ⟨0, by omega, rfl, Below.refl _ _⟩
  case round =>
    obtain ⟨k, hk, rfl, hB⟩ := hrel
    by_cases hlt : k < n
    · obtain ⟨g1, rfl, hg1, hcell1⟩ := hc1 (by omega)
      obtain ⟨g2, rfl, hg2, hcell2⟩ := hc2 (by omega)
      obtain ⟨a, ha1, ha2⟩ := hv k hlt
      have y0 := (hB.cell (p := ⟨g1, k, none⟩) hg1).trans ((hcell1 k hlt).trans ha1)
      have z0 := (hB.cell (p := ⟨g2, k, none⟩) hg2).trans ((hcell2 k hlt).trans ha2)
      have yg : g1 < wr.heap.size := block_lt_of_cell y0
      have zg : g2 < wr.heap.size := block_lt_of_cell z0
      clear hcell1 hcell2 ha1 ha2 hc1 hc2 hv
      go_wp2
      refine wp_region_quiet_below (by kernel_rfl) (by kernel_rfl) ?_
      repeat (go_big_quiet_step (fail))
      refine wpQuiet_nil ?_
      intro w2 hw2
      have hB2 := bthen hB (of_gr hw2) hB.size
      clear hw2
      go_wp2
      go_roundw
      case rel => exact ⟨k + 1, by omega, by simp, hB2⟩
      case measure => simp [RowKit.intOf]; omega
    · obtain rfl : k = n := by omega
      go_wp2
      go_ret
      exact ⟨by simp, hB⟩
end Go.Proofs.YtopfaapcekiojaaGreat

/- Count, good or bad; the sum of the counts. -/
namespace Go.Proofs.YtopfaapcekiojaaGreat
open Go.RowKit Go.Sort Go.Shelf Sym Two
set_option linter.unusedVariables false
set_option linter.unusedSimpArgs false

def CX (W : World) (nc : Nat) (e0 : Int) (L : List BX) (e : Ending) (W' : World) : Prop := ∃ v, e = .returned (.tuple #[v, .int .i64 e0]) ∧ RowE W' v nc (rowC L) ∧ Below W.heap.size W W'
theorem rowE_nil (W : World) (xs : List Value) : RowE W (.slice none 0 0) 0 xs := ⟨none, 0, rfl, by omega, fun h => by omega⟩
theorem counts (A : Option Addr) (n ca : Nat) (l : List Int) (hl : Bys l) (hn : n ≤ 2000) :
    ∃ (nc : Nat) (e0 : Int), nc ≤ 33 ∧ (e0 = 0 ∧ nc = 33 ∨ e0 = 1) ∧ (∀ W, BRow W A n l → Calls Tryz.prog 18 #[.slice A n ca] W (CX W nc e0 (bxL l hl (n / 4)))) ∧ (∀ W, BRow W A n l → Calls Tryz.prog 19 #[.slice A n ca] W (CX W nc e0 (bxL l hl (n / 4)))) := by
  by_cases h4 : n % 4 = 0
  · refine ⟨33, 0, by omega, .inl ⟨rfl, rfl⟩, fun W hr => ?_, fun W hr => ?_⟩
    · refine (count_any A n ca l hl W hr hn h4).mono ?_
      rintro e W' ⟨v, rfl, hv, hb⟩
      exact ⟨v, rfl, rowE_own hv (by omega), hb⟩
    · refine (rcount_any A n ca l hl W hr hn h4).mono ?_
      rintro e W' ⟨v, rfl, hv, hb⟩
      exact ⟨v, rfl, rowE_own hv (by omega), hb⟩
  · refine ⟨0, 1, by omega, .inr rfl, fun W hr => ?_, fun W hr => ?_⟩
    · refine (count_bad A n ca W hn h4).mono ?_
      rintro e W' ⟨rfl, hb⟩
      exact ⟨_, rfl, rowE_nil _ _, hb⟩
    · refine (rcount_bad A n ca W hn h4).mono ?_
      rintro e W' ⟨rfl, hb⟩
      exact ⟨_, rfl, rowE_nil _ _, hb⟩
/-- the sum of the first k counts -/
def sumC (xs : List BX) : Nat → Nat
  | 0 => 0
  | k + 1 => sumC xs k + cntX xs k
theorem sumC_zero : ∀ k, sumC [] k = 0
  | 0 => rfl
  | k + 1 => by rw [sumC, sumC_zero k]; rfl
theorem cntX_cons (xs : List BX) (x : BX) (c : Nat) : cntX (x :: xs) c = cntX xs c + (if x.1.2.op = (c : Int) then 1 else 0) := by
  unfold cntX
  rw [List.countP_cons]
  by_cases h : x.1.2.op = (c : Int) <;> simp [h]
theorem sumC_cons (xs : List BX) (x : BX) : ∀ k, sumC (x :: xs) k = sumC xs k + (if x.1.2.op < (k : Int) then 1 else 0)
  | 0 => by
    have := x.2.2.2.1
    rw [if_neg (by omega)]
    rfl
  | k + 1 => by
    have h0 := x.2.2.2.1
    rw [sumC, sumC, sumC_cons xs x k, cntX_cons]
    by_cases h1 : x.1.2.op < (k : Int)
    · rw [if_pos h1, if_neg (by omega), if_pos (by omega)]
      omega
    · by_cases h2 : x.1.2.op = (k : Int)
      · rw [if_neg h1, if_pos h2, if_pos (by omega)]
        omega
      · rw [if_neg h1, if_neg h2, if_neg (by omega)]
        omega
theorem sumC_all (xs : List BX) : sumC xs 33 = xs.length := by
  induction xs with
  | nil => exact sumC_zero 33
  | cons x xs ih =>
    have h0 := x.2.2.2.2
    rw [sumC_cons, ih, if_pos (by omega)]
    simp
theorem sumC_le (xs : List BX) : ∀ k, sumC xs k ≤ k * xs.length
  | 0 => Nat.zero_le _
  | k + 1 => by
    have := sumC_le xs k
    have := cntX_le xs k
    rw [sumC, Nat.succ_mul]
    omega
/-- two rows of the words, one of them shorter -/
theorem wds_same (l : List Int) (hl : Bys l) (k m j : Nat) (hj : j < m) (hm : m ≤ k) : ∃ a, (wdVs ((bxL l hl k).take m))[j]? = some (.int .u32 a) ∧ (wdsK l k)[j]? = some (.int .u32 a) := by
  refine ⟨wdOf l j, ?_, ?_⟩
  · have : j < k := by omega
    simp [wdVs, bxL, hj, this, wdV, bxAt]
  · have : j < k := by omega
    simp [wdsK, this]
theorem cells_len (y : Ins) : (cellsI' y).length = 10 := rfl
theorem inVs_at : ∀ (L : List BX) (k j : Nat) (h : k < L.length), j < 10 → (inVs L)[k * 10 + j]? = (cellsI' (L[k]).1.2)[j]?
  | x :: L, 0, j, h, hj => by
    show ((cellsI' x.1.2) ++ inVs L)[0 * 10 + j]? = _
    rw [List.getElem?_append_left (by rw [cells_len]; omega)]
    simp
  | x :: L, k + 1, j, h, hj => by
    show ((cellsI' x.1.2) ++ inVs L)[(k + 1) * 10 + j]? = _
    rw [List.getElem?_append_right (by rw [cells_len]; omega), cells_len, show (k + 1) * 10 + j - 10 = k * 10 + j by omega]
    exact inVs_at L k j (by simpa using h) hj
/-- the instructions of the words, in a row -/
def RowI (W : World) (v : Value) (m : Nat) (l : List Int) : Prop := ∃ A cap, v = .slice A m cap ∧ (0 < m → ∃ g, A = some ⟨g, 0, none⟩ ∧ g < W.heap.size ∧ ∀ k, k < m → W.rangeAt g (k * 10) (cellsI' (dY (wdOf l k))))
theorem RowI.keep {W W' : World} {v : Value} {m : Nat} {l : List Int} (h : RowI W v m l) (hb : Below W.heap.size W W') : RowI W' v m l := by
  obtain ⟨A, cap, e, hc⟩ := h
  refine ⟨A, cap, e, fun hn => ?_⟩
  obtain ⟨g, e', hg, hcell⟩ := hc hn
  refine ⟨g, e', Nat.lt_of_lt_of_le hg hb.size, fun k hk j u hj => ?_⟩
  rw [hb.cell (p := ⟨g, k * 10 + j, none⟩) hg]
  exact hcell k hk j u hj
theorem rowI_own {W : World} {base m : Nat} {e : TypeId} {v : Value} {l : List Int} {hl : Bys l} (h : W.ownsRow base e 10 v m (inVs (bxL l hl m))) : RowI W v m l := by
  rcases h.2 with ⟨rfl, h0⟩ | ⟨g, cap, cur, rfl, _, hg, _⟩
  · exact ⟨none, 0, by rw [h0], fun h => by omega⟩
  · refine ⟨_, cap, rfl, fun _ => ⟨g, rfl, (Array.getElem?_eq_some_iff.1 hg).1, fun k hk j u hj => ?_⟩⟩
    have hj10 : j < 10 := by
      rcases Nat.lt_or_ge j 10 with q | q
      · exact q
      · rw [List.getElem?_eq_none (by rw [cells_len]; exact q)] at hj; cases hj
    rw [World.ownsRow.cellAt h (k * 10 + j) (by omega), inVs_at _ k j (by rw [bxL_len]; exact hk) hj10]
    have : ((bxL l hl m)[k]'(by rw [bxL_len]; exact hk)).1.2 = dY (wdOf l k) := by simp [bxL, bxAt]
    rw [this]
    exact hj
theorem own_cap {W : World} {base n s : Nat} {e : TypeId} {v : Value} {xs : List Value} (h : W.ownsRow base e s v n xs) : ∀ A c, v = .slice A n c → n ≤ c := by
  rcases h.2 with ⟨rfl, h0⟩ | ⟨g, cap, cur, rfl, _, hg, hc, _⟩
  · rintro A c he; cases he; omega
  · rintro A c he; cases he; exact hc
theorem wdVs_bx (l : List Int) (hl : Bys l) (k : Nat) : wdVs (bxL l hl k) = wdsK l k := by
  unfold wdVs bxL wdsK
  rw [List.map_map]
  rfl
end Go.Proofs.YtopfaapcekiojaaGreat
