/- The list of all runs that the law gathers. -/
import Derived.Test.YtjojflodhghdbaaDoorRunW
import Derived.Lib.SmallJoins
namespace Go.Proofs.YtjojflodhghdbaaDoor
open Go.RowKit Go.Sort Go.Shelf Go.Joins
attribute [local go_sem] Oper.semAt_some cell_gr frozen_gr wide_fn asked_wide
set_option linter.unusedVariables false

theorem runInfo : (Tryd.prog.info? 30).map (fun i => (i.zero, i.size, i.bytes)) = some (some (.agg #[.int .i64 0, .int .i64 0]), 2, 16) := by kernel_rfl
/-- the cells of runs -/
def pairC (p : Nat × Nat) : List Value := [.int .i64 p.1, .int .i64 p.2]
def runVs (l : List (Nat × Nat)) : List Value := l.flatMap pairC
/-- a slice of runs in new blocks -/
def RunRow (W : World) (base : Nat) (v : Value) (l : List (Nat × Nat)) : Prop := W.ownsRow base 30 2 v l.length (runVs l)
def RunsGot (W : World) (L : List (Nat × Nat)) (e : Ending) (W' : World) : Prop := ∃ v, e = .returned v ∧ RunRow W' W.heap.size v L ∧ Below W.heap.size W W'
theorem cell_two_new (w : World) (a b : Value) (t : TypeId) : ∀ j u, [a, b][j]? = some u → (w.alloc (.cells #[a, b] t)).cell? ((⟨w.heap.size, 0, none⟩ : Addr).add j) = some u := by
  intro j u hj
  match j, hj with
  | 0, hj =>
    simp at hj
    subst hj
    simp [Addr.add]
  | 1, hj =>
    simp at hj
    subst hj
    simp [Addr.add]
theorem runVs_snoc (l : List (Nat × Nat)) (p : Nat × Nat) : runVs (l ++ [p]) = runVs l ++ pairC p := by simp [runVs]
theorem runNs_len (l : List RunX) : (runNs l).length = l.length := by simp [runNs]
theorem runNs_snoc (l : List RunX) (p : RunX) : runNs (l ++ [p]) = runNs l ++ [p.1] := by simp [runNs]
def GotI (w : World) (pre : List RunX) (W : World) : Prop := (∃ v, Boxed W (w.heap.size + 2) 27 v ∧ W.ownsRow (w.heap.size + 2) 30 2 v (runNs pre).length (runVs (runNs pre)) ∧ pre.length ≤ 65) ∧ Below w.heap.size w W
theorem gotI_own (w : World) (B : Nat) (h : w.heap.size + 2 ≤ B) : OwnFrom B (GotI w) :=
  OwnFrom.and (Own.from (holdsRow_own (w.heap.size + 2) (w.heap.size + 2) 27 30 2 (fun pre : List RunX => (runNs pre).length) (fun pre => runVs (runNs pre)) (fun pre v => pre.length ≤ 65)) _) (ownFrom_below (Nat.le_refl _) (by omega))
set_option maxRecDepth 100000 in
set_option maxHeartbeats 4000000 in
theorem runs_got (v x : Int) (hv : U64 v) (hx : I64 x) (w : World) (hg : 0 < w.heap.size) (hT : Tab w) :
    CallsIn Fence.wide 4 Tryd.prog 7 #[.int .u64 v, .int .i64 x] w (RunsGot w (refR (fun i => (runB v x).testBit i) 64)) := by
  obtain ⟨i0, hi, hz0, hz1, hz2⟩ := info_parts runInfo
  have hst := Lib.hid (runs_stops 3 (by decide) w.heap.size (w.heap.size + 1) (w.heap.size + 2) v x hv hx)
  obtain ⟨L, hL⟩ : ∃ L, L = refR (fun i => (runB v x).testBit i) 64 := ⟨_, rfl⟩
  rw [← hL] at hst ⊢
  refine callsIn_of_wp_marks Tryd.func7 rfl trivial ?_ rfl
  simp only [Tryd.ntmps7, List.size_toArray, List.length_cons, List.length_nil, Nat.reduceAdd, Nat.reduceSub, Array.replicate_succ, Array.replicate_zero, List.push_toArray, List.append_toArray, List.nil_append, List.cons_append]
  have hnil : ∀ W, Sem.run Tryd.prog (binOp BinOp.eql 49 (.func (.func 29) #[] #[.pointer (some ⟨w.heap.size, 0, none⟩), .pointer (some ⟨w.heap.size + 1, 0, none⟩)]) .nilFunc) W = .ok (.bool false) W := fun _ => by kernel_rfl
  gi_wp2_with (gi_at_call 20; refine (runs_in Fence.wide _ trivial rfl _ _ _).mono ?_; rintro e w' ⟨rfl, rfl⟩)
  have hW0 : Below w.heap.size w (((w.alloc (.cells #[.int .u64 v] 22)).alloc (.cells #[.int .i64 x] 3)).alloc (.cells #[.slice none 0 0] 27)) := (((Below.refl _ w).alloc (Nat.le_refl _) _).alloc (by simp) _).alloc (by simp; omega) _
  have bL := Boxed.new ((w.alloc (.cells #[.int .u64 v] 22)).alloc (.cells #[.int .i64 x] 3)) 27 (.slice none 0 0)
  have cV : (((w.alloc (.cells #[.int .u64 v] 22)).alloc (.cells #[.int .i64 x] 3)).alloc (.cells #[.slice none 0 0] 27)).cell? ⟨w.heap.size, 0, none⟩ = some (.int .u64 v) := by simp [go_sem]
  have cX : (((w.alloc (.cells #[.int .u64 v] 22)).alloc (.cells #[.int .i64 x] 3)).alloc (.cells #[.slice none 0 0] 27)).cell? ⟨w.heap.size + 1, 0, none⟩ = some (.int .i64 x) := by
    have := ((Boxed.new (w.alloc (.cells #[.int .u64 v] 22)) 3 (.int .i64 x)).alloc (.cells #[.slice none 0 0] 27)).cell
    rw [World.size_alloc] at this
    exact this
  have zW : (((w.alloc (.cells #[.int .u64 v] 22)).alloc (.cells #[.int .i64 x] 3)).alloc (.cells #[.slice none 0 0] 27)).heap.size = w.heap.size + 3 := by simp
  have hTW := hT.below hW0 hg
  rw [World.size_alloc, World.size_alloc] at bL
  generalize (((w.alloc (.cells #[.int .u64 v] 22)).alloc (.cells #[.int .i64 x] 3)).alloc (.cells #[.slice none 0 0] 27)) = W0 at *
  clear hnil hT
  refine wpIn_rangeFunc_ownG rfl (by decide) (gf := 29) (lb := #[.pointer (some ⟨w.heap.size, 0, none⟩), .pointer (some ⟨w.heap.size + 1, 0, none⟩)]) rfl trivial (enters_of Tryd.func29 (by kernel_rfl) rfl)
    (hst.out W0 (by omega) (by omega) (by omega) (by omega) cV cX hTW) belowK_t (belowK_b (by omega)) (Below.refl _ _) (fun _ => rfl)
    (GotI w) (fun _ _ _ => False) (gotI_own w _ (by omega)) (fun _ _ _ _ _ h => h.elim)
    ⟨⟨_, bL, World.ownsRow_nil _ _ _ _, by simp⟩, hW0⟩
    (fun p => { tmps := #[.int .u64 v, .int .i64 x, undef, undef, .slice none 0 0, (.func (.func 29) #[] #[.pointer (some ⟨w.heap.size, 0, none⟩), .pointer (some ⟨w.heap.size + 1, 0, none⟩)]), .pointer (some ⟨w.heap.size + 1 + 1, 0, none⟩), .int .i64 p.1.1, .int .i64 p.1.2, .int .u64 v, .int .i64 x, (.func (.func 29) #[] #[.pointer (some ⟨w.heap.size, 0, none⟩), .pointer (some ⟨w.heap.size + 1, 0, none⟩)]), (.func (.func 29) #[] #[.pointer (some ⟨w.heap.size, 0, none⟩), .pointer (some ⟨w.heap.size + 1, 0, none⟩)]), .bool false, (.func (.func 29) #[] #[.pointer (some ⟨w.heap.size, 0, none⟩), .pointer (some ⟨w.heap.size + 1, 0, none⟩)]), .int .i64 p.1.1, .int .i64 p.1.2, undef, undef, undef, undef, undef, undef, undef], defers := [] }) ?assign ?body ?done ?stop
  case assign =>
    intro l p W K hK
    dsimp only [runEnc]
    gi_wp2
    exact hK
  case body =>
    rintro l pre p W ⟨⟨v0, hv0, hrow, hlen⟩, hB⟩ hlt
    have hcv := hv0.cell
    have hnl : (runNs pre).length < 65 := by rw [runNs_len]; exact hlt
    have hmx : 65 ≤ maxLen := by unfold maxLen; omega
    have hsz : w.heap.size + 2 < W.heap.size := hv0.lt
    have hnp : runVs (runNs pre) ++ [.int .i64 p.1.1, .int .i64 p.1.2] = runVs (runNs (pre ++ [p])) := by rw [runNs_snoc, runVs_snoc]; rfl
    replace hnp := Lib.hid hnp
    gi_wp2_with (gi_at_builtin; show wpListIn _ _ _ _ _ ({ dst := _, op := Op.call { callee := Callee.builtin Builtin.append, args := _, argTypes := _ }, type := _, pos := _, after := _, guard := _ } :: _) _ _; refine wpListIn_append_own _ rfl _ _ 27 rfl (w.heap.size + 2) 30 i0 (.agg #[.int .i64 0, .int .i64 0]) 2 16 Tryd.underlying27 hi hz0 hz1 hz2 rfl (by decide) _ _ _ rfl (hrow.alloc _) ⟨W.heap.size, 0, none⟩ 1 1 [.int .i64 p.1.1, .int .i64 p.1.2] rfl rfl (cell_two_new _ _ _ _) (by simp [Value.oneCell']) (by omega) (by omega) (by simp; omega) ?_; intro v' w1 hown' hgrow _; obtain ⟨g', cap', rfl⟩ := ownsRow_succ hown'; obtain ⟨hv1, hv2, hr2, hk2, hb2⟩ := hv0.appended (by decide) hrow (by omega) (by omega) hown' hgrow; have hc1 := hv1.cell; have hf1 := hv1.frozen)
    have hl1 : (runNs (pre ++ [p])).length = (runNs pre).length + 1 := by rw [runNs_len, runNs_len]; simp
    refine ⟨hk2.from _, hb2, ⟨_, hv2, ?_, by simp; omega⟩, hB.trans (hb2.mono (by omega))⟩
    rw [← hnp.out, hl1]
    exact hr2
  case done =>
    rintro D ys W hD hys ⟨⟨v0, hv0, hrow, hlen⟩, hB⟩ hK
    have hc := hv0.cell
    gi_wp2
    refine ⟨by simp, .inl ⟨_, _, rfl, run_takeDeferred hK, ?_⟩⟩
    refine ⟨_, results_tmp rfl _ _ _, v0, rfl, ?_, hB.trans (belowK_b (w := w) (Nat.le_refl _) W D _ _ (by omega) hK rfl rfl)⟩
    rw [← hys]
    exact ownsRow_le (ownsRow_putObj hrow _ hK rfl) (by omega)
  case stop =>
    rintro D c pre W hD hpre h
    exact h.elim
theorem runs_list (v x : Int) (hv : U64 v) (hx : I64 x) (w : World) (hg : 0 < w.heap.size) (hT : Tab w) :
    Calls Tryd.prog 7 #[.int .u64 v, .int .i64 x] w (RunsGot w (refR (fun i => (runB v x).testBit i) 64)) := (callsIn_wide (n := 4)).1 (runs_got v x hv hx w hg hT)
end Go.Proofs.YtjojflodhghdbaaDoor
