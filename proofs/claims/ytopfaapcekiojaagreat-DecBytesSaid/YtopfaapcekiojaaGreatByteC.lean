/- dec.Count: how many words are of each class. -/
import Derived.Test.YtopfaapcekiojaaGreatByteT
namespace Go.Proofs.YtopfaapcekiojaaGreat
open Go.RowKit Go.Sort Go.Shelf Sym Two
attribute [local go_sem] Oper.semAt_some cell_gr frozen_gr wide_fn asked_wide
set_option linter.unusedVariables false
set_option linter.unusedSimpArgs false

/-- how many are of class c -/
def cntX (xs : List BX) (c : Nat) : Nat := xs.countP fun p => p.1.2.op == (c : Int)
theorem cntX_snoc (xs : List BX) (x : BX) (c : Nat) : cntX (xs ++ [x]) c = cntX xs c + (if x.1.2.op = (c : Int) then 1 else 0) := by
  unfold cntX
  rw [List.countP_append]
  by_cases h : x.1.2.op = (c : Int) <;> simp [h]
theorem cntX_le (xs : List BX) (c : Nat) : cntX xs c ≤ xs.length := List.countP_le_length
/-- the counts, laid -/
def rowC (xs : List BX) : List Value := (List.range 33).map fun c => .int .i64 (cntX xs c)
theorem rowC_len (xs : List BX) : (rowC xs).length = 33 := by simp [rowC]
theorem rowC_nil : rowC [] = List.replicate 33 (.int .i64 0) := rfl
theorem rowC_get (xs : List BX) (c : Nat) (h : c < 33) : (rowC xs)[c]? = some (.int .i64 (cntX xs c)) := by simp [rowC, h]
theorem rowC_set (xs : List BX) (x : BX) (c : Nat) (hc : x.1.2.op = (c : Int)) (h : c < 33) : (rowC xs).set c (.int .i64 ((cntX xs c : Nat) + 1)) = rowC (xs ++ [x]) := by
  apply List.ext_getElem?
  intro j
  rw [List.getElem?_set, rowC_len]
  by_cases hj : j < 33
  · rw [rowC_get _ j hj, rowC_get _ j hj, cntX_snoc]
    by_cases e : c = j
    · subst e
      rw [if_pos rfl, if_pos h, if_pos hc]
      simp
    · rw [if_neg e, if_neg (by rw [hc]; omega)]
      rfl
  · have h1 : (rowC xs)[j]? = none := List.getElem?_eq_none (by rw [rowC_len]; omega)
    have h2 : (rowC (xs ++ [x]))[j]? = none := List.getElem?_eq_none (by rw [rowC_len]; omega)
    rw [h1, h2, if_neg (by omega)]
def zero33 : Array Value := (List.replicate 33 (Value.int .i64 0)).toArray
theorem make33 (W : World) : Sem.run Tryz.prog (Instr.makeSlice 46 (.int .i64 33) (.int .i64 33)) W = .ok (.slice (some ⟨W.heap.size, 0, none⟩) 33 33) (W.alloc (.cells zero33 3)) := by kernel_rfl
def v33 (w : World) : Value := .slice (some ⟨w.heap.size, 0, none⟩) 33 33
def CI (w : World) (n₀ : Nat) (pre : List BX) (W : World) : Prop := ((∃ v, Boxed W (w.heap.size + 1) 46 v ∧ W.ownsRow w.heap.size 3 1 v 33 (rowC pre) ∧ v = v33 w) ∧ Below w.heap.size w W) ∧ n₀ ≤ W.heap.size
/-- the blocks between are as they were -/
def KeptIn (n₁ n₀ : Nat) (W W' : World) : Prop := W.heap.size ≤ W'.heap.size ∧ ∀ k, n₁ ≤ k → k < n₀ → W'.heap[k]? = W.heap[k]?
theorem keptIn_t {n₁ n₀ : Nat} {A B C : World} (h : KeptIn n₁ n₀ A B) (k : KeptIn n₁ n₀ B C) : KeptIn n₁ n₀ A C := ⟨Nat.le_trans h.1 k.1, fun j h1 h2 => (k.2 j h1 h2).trans (h.2 j h1 h2)⟩
theorem keptIn_b {n₁ n₀ : Nat} {w : World} (hn : n₀ ≤ w.heap.size) (W : World) (l : Nat) (o o' : Obj) (hl : w.heap.size ≤ l) (h : W.heap[l]? = some o) (h1 : o.isCells = false) (h2 : o.isWalk = false) : KeptIn n₁ n₀ W (W.putObj l o') :=
  ⟨(belowK_b hn W l o o' hl h h1 h2).size, fun k _ hk => (belowK_b hn W l o o' hl h h1 h2).block k hk⟩
theorem keptIn_of {n₁ n₀ : Nat} {W W' : World} (h : Below n₀ W W') : KeptIn n₁ n₀ W W' := ⟨h.size, fun k _ hk => h.block k hk⟩
theorem cI_own (w : World) (n₀ B : Nat) (h : w.heap.size ≤ B) : OwnFrom B (CI w n₀) :=
  OwnFrom.and (OwnFrom.and (Own.from (holdsRow_own w.heap.size (w.heap.size + 1) 46 3 1 (fun pre : List BX => 33) (fun pre => rowC pre) (fun pre v => v = v33 w)) _) (ownFrom_below (Nat.le_refl _) h)) (fun _ _ _ _ hs hg hr => Nat.le_trans hs hg.size)
def cAct (A : Option Addr) (n ca : Nat) (w : World) (Bw : Nat) (x : BX) (b : Nat) : Act := { tmps := #[.slice A n ca, undef, .slice none 0 0, .int .i64 0, .pointer (some ⟨w.heap.size + 1, 0, none⟩), undef, .pointer (some ⟨b, 0, none⟩), .bool (decide ((1048576 : Int) < n)), .slice A n ca, .int .i64 n, .bool (decide ((1048576 : Int) < n)), .bool false, .slice A n ca, .int .i64 n, .int .i64 0, .bool false, .slice (some ⟨w.heap.size, 0, none⟩) 33 33, .slice A n ca, .func (.func 37) #[] #[.pointer (some ⟨Bw, 0, none⟩)], .int .u32 x.1.1, .agg (cellsI' x.1.2).toArray, undef, undef, undef, undef, undef, undef, undef, undef], defers := [] }
/-- the counts in a new row -/
def CountB (W : World) (L : List BX) (e : Ending) (W' : World) : Prop := ∃ v, e = .returned (.tuple #[v, .int .i64 0]) ∧ W'.ownsRow W.heap.size 3 1 v 33 (rowC L) ∧ Below W.heap.size W W'
set_option maxRecDepth 100000 in
set_option maxHeartbeats 4000000 in
theorem count_in (A : Option Addr) (n ca : Nat) (l : List Int) (hl : Bys l) (w : World) (hr : BRow w A n l) (hn : n ≤ 2000) (h4 : n % 4 = 0) :
    CallsIn Fence.wide 4 Tryz.prog 18 #[.slice A n ca] w (CountB w (bxL l hl (n / 4))) := by
  refine callsIn_of_wp_marks Tryz.func18 rfl trivial ?_ rfl
  simp only [Tryz.ntmps18, List.size_toArray, List.length_cons, List.length_nil, Nat.reduceAdd, Nat.reduceSub, Array.replicate_succ, Array.replicate_zero, List.push_toArray, List.append_toArray, List.nil_append, List.cons_append]
  have hm4 : (n : Int) % 4 = 0 := by omega
  have hmk := make33
  have hW1 : Below w.heap.size w ((w.alloc (.cells zero33 3)).alloc (.cells #[.slice (some ⟨w.heap.size, 0, none⟩) 33 33] 46)) := ((Below.refl _ w).alloc (Nat.le_refl _) _).alloc (by simp) _
  have hall := dall_any A n ca l _ (hr.keep hW1) hn
  have b1 := Boxed.new (w.alloc (.cells zero33 3)) 46 (.slice (some ⟨w.heap.size, 0, none⟩) 33 33)
  rw [World.size_alloc] at b1
  have hmx : 600 ≤ maxLen := by unfold maxLen; omega
  have r1 : ((w.alloc (.cells zero33 3)).alloc (.cells #[.slice (some ⟨w.heap.size, 0, none⟩) 33 33] 46)).ownsRow w.heap.size 3 1 (.slice (some ⟨w.heap.size, 0, none⟩) 33 33) 33 (rowC []) := (World.ownsRow_lit w zero33 33 (Nat.le_refl _) (by omega) rfl).alloc _
  have z1 : ((w.alloc (.cells zero33 3)).alloc (.cells #[.slice (some ⟨w.heap.size, 0, none⟩) 33 33] 46)).heap.size = w.heap.size + 2 := by simp
  generalize hWe : ((w.alloc (.cells zero33 3)).alloc (.cells #[.slice (some ⟨w.heap.size, 0, none⟩) 33 33] 46)) = W1 at *
  gi_wp2_with (gi_at_call 17; refine (callsIn_wide.2 hall).mono ?_; rintro e W0 ⟨Bw, A', cb, rfl, hbA, hBw, hcB, hcb, hrB, hBw1, hA1⟩)
  clear hmk hWe hall
  have b0 := (hbA.block (w.heap.size + 1) (by omega)).trans b1
  have r0 := row_below' r1 hbA
  have hW0 : Below w.heap.size w W0 := bthen hW1 hbA hW1.size
  have hz := hbA.size
  have hst := dall_stops 3 (by decide) Bw W0.heap.size A' n cb l hl W0 hBw (Nat.le_refl _) hcB hrB ⟨hcb, hn⟩ (KeptIn W1.heap.size W0.heap.size) W1.heap.size (fun W W' h => h) hBw1 hA1
  have hlen : (bxL l hl (n / 4)).length ≤ 500 := by rw [bxL_len]; omega
  obtain ⟨L, hL⟩ : ∃ L, L = bxL l hl (n / 4) := ⟨_, rfl⟩
  rw [← hL] at hst hlen ⊢
  replace hL := Lib.hid hL
  clear b1 r1 hbA hW1
  refine wpIn_rangeFunc_ownH rfl (by decide) (gf := 37) (lb := #[.pointer (some ⟨Bw, 0, none⟩)]) rfl trivial (enters_of Tryz.func37 (by kernel_rfl) rfl)
    hst keptIn_t (keptIn_b (Nat.le_refl _)) (Below.refl _ _) (fun _ => rfl)
    (CI w W0.heap.size) (fun _ _ _ => False) (cI_own w W0.heap.size _ (by omega)) (fun c => Own.from (fun s X Y row hs _ _ => hs.elim) _)
    ⟨⟨⟨_, b0, r0, rfl⟩, hW0⟩, Nat.le_refl _⟩
    (fun x a' W => ∃ b : Nat, a' = cAct A n ca w Bw x b ∧ W.heap[b]? = some (.cells (cellsI' x.1.2).toArray 24 (0, 0)))
    (fun x a' => Own.from (fun s X Y row hs hg hr => by
      obtain ⟨b, h1, h2⟩ := hs
      exact ⟨b, h1, (hg.block b (Array.getElem?_eq_some_iff.1 h2).1 (fun e => by obtain ⟨o, ho, hc⟩ := hr b e.symm; rw [h2] at ho; cases ho; cases hc)).trans h2⟩) _) ?assign ?body ?done ?stop
  case assign =>
    intro lo pre x W K hI hK
    dsimp only [bxEnc]
    gi_wp2_with (show wpListIn _ _ _ _ _ ({ dst := _, op := Op.store _ _ _, type := _, pos := _, after := _, guard := _ } :: _) _ _; refine wpListIn_store_row rfl 24 _ _ rfl W.heap.size (cellsI' x.1.2).toArray rfl rfl 24 _ (World.alloc_heap_new _ _) (by kernel_rfl) (by simp [cellsI']) (by simp [cellsI', Value.oneCell']) ?_; rw [World.setRow_alloc_new])
    exact hK _ _ ((KeepsOthers.alloc W _).from _) (keptIn_of ((Below.refl W0.heap.size W).alloc hI.2 _)) ((cI_own w W0.heap.size w.heap.size (Nat.le_refl _)).alloc _ hI) ⟨_, rfl, World.alloc_heap_new _ _⟩
  case body =>
    rintro lo pre x a' W _ _ ⟨⟨⟨v, hv, hr1, rfl⟩, hB⟩, hn0⟩ ⟨b, rfl, hbk⟩ hlt
    unfold v33 at *
    obtain ⟨c, hc⟩ := Int.eq_ofNat_of_zero_le x.2.2.2.1
    have hc33 : c < 33 := by have := x.2.2.2.2; omega
    have hcn : ((c : Nat) : Int).toNat = c := Int.toNat_natCast c
    have x0 : W.cell? ⟨b, 0, none⟩ = some (.int .i64 c) := by
      simp only [World.cell?, hbk, cellsI', hc]
      rfl
    have hcv := hv.cell
    have y0 : W.cell? ⟨w.heap.size, c, none⟩ = some (.int .i64 (cntX pre c)) := by rw [World.ownsRow.cellAt hr1 c (by omega), rowC_get pre c hc33]
    have f0 := World.ownsRow.frozenAt hr1 c
    have hcl := cntX_le pre c
    have hst := World.ownsRow.stored hr1 c (.int .i64 ((cntX pre c : Nat) + 1))
    rw [rowC_set pre x c hc hc33] at hst
    have hw1 : wrap64 (((cntX pre c : Nat) : Int) + 1) = ((cntX pre c : Nat) : Int) + 1 := IntWalk.wrap64_in _ (by omega)
    generalize cntX pre c = k at *
    unfold cAct
    gi_wp2
    have hkp : KeptIn W1.heap.size W0.heap.size W (W.setCell ⟨w.heap.size, c, none⟩ (.int .i64 ((k : Nat) + 1))) := ⟨by simp, fun j hj _ => heap_setCell_other W ⟨w.heap.size, c, none⟩ j _ (by show j ≠ w.heap.size; omega)⟩
    refine ⟨(KeepsOthers.setCell _ _ _).from _, hkp, ⟨⟨⟨_, hv.kept hst.2 (by simp), hst.1, rfl⟩, ?_⟩, ?_⟩⟩
    · exact hB.setCell (p := ⟨w.heap.size, c, none⟩) (Nat.le_refl _) _
    · have := hkp.1; omega
  case done =>
    rintro D ys W hD rfl ⟨⟨⟨v, hv, hr1, rfl⟩, hB⟩, hn0⟩ hK
    unfold v33 at *
    have hc1 := hv.cell
    gi_wp2
    have hz0 := hW0.size
    refine ⟨by simp, .inl ⟨_, _, rfl, run_takeDeferred hK, ?_⟩⟩
    exact ⟨_, results_tmp2 rfl _ _ _, _, rfl, by rw [← hL.out]; exact ownsRow_putObj hr1 _ hK rfl, hB.trans (belowK_b (w := w) (Nat.le_refl _) W D _ _ (by omega) hK rfl rfl)⟩
  case stop =>
    intro D c pre W _ _ hs
    exact hs.elim
theorem count_any (A : Option Addr) (n ca : Nat) (l : List Int) (hl : Bys l) (w : World) (hr : BRow w A n l) (hn : n ≤ 2000) (h4 : n % 4 = 0) :
    Calls Tryz.prog 18 #[.slice A n ca] w (CountB w (bxL l hl (n / 4))) := (callsIn_wide (n := 4)).1 (count_in A n ca l hl w hr hn h4)
end Go.Proofs.YtopfaapcekiojaaGreat
