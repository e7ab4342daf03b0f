/- told: what an iterator of All tells, at most so many. -/
import Derived.Test.YtjojflodhghdbaaAllW
namespace Go.Proofs.Ytjojflodhghdbaa
open Go.RowKit Go.Sort Go.Shelf
attribute [local go_sem] Oper.semAt_some cell_gr frozen_gr wide_fn asked_wide
set_option linter.unusedVariables false

theorem pairInfo : (Try.prog.info? 67).map (fun i => (i.zero, i.size, i.bytes)) = some (some (.agg #[.int .i64 0, .int .u64 0]), 2, 16) := by kernel_rfl
/-- the cells of pairs -/
def pairV (p : AllX) : List Value := [.int .i64 p.1.1, .int .u64 p.1.2]
def pairVs (l : List AllX) : List Value := l.flatMap pairV
/-- a slice of pairs in new blocks -/
def Told (W : World) (L : List AllX) (e : Ending) (W' : World) : Prop := ∃ v, e = .returned v ∧ W'.ownsRow W.heap.size 67 2 v L.length (pairVs L) ∧ Below W.heap.size W W'
theorem cell_two_new (w : World) (a b : Value) (t : TypeId) : ∀ j u, [a, b][j]? = some u → (w.alloc (.cells #[a, b] t)).cell? ((⟨w.heap.size, 0, none⟩ : Addr).add j) = some u := by
  intro j u hj
  match j, hj with
  | 0, hj =>
    simp at hj
    subst hj
    simp [Addr.add]
  | 1, hj =>
    simp at hj
    subst hj
    simp [Addr.add]
theorem len_own {W : World} {base k : Nat} {v : Value} {xs : List Value} (h : W.ownsRow base 67 2 v k xs) : ∀ W', Sem.run Try.prog (Builtin.len_ #[61] 3 #[v]) W' = .ok (.int .i64 k) W' := fun W' => by
  rcases h.2 with ⟨rfl, rfl⟩ | ⟨g, cap, cur, rfl, _⟩ <;> kernel_rfl
theorem pairVs_snoc (l : List AllX) (p : AllX) : pairVs (l ++ [p]) = pairVs l ++ pairV p := by simp [pairVs]
def ToldI (m : Int) (w : World) (pre : List AllX) (W : World) : Prop := ((∃ v, Boxed W (w.heap.size + 1) 61 v ∧ W.ownsRow w.heap.size 67 2 v pre.length (pairVs pre) ∧ pre.length ≤ m.toNat) ∧ Boxed W w.heap.size 3 (.int .i64 m)) ∧ Below w.heap.size w W
def ToldX (m : Int) (w : World) (c : Code) (pre : List AllX) (W : World) : Prop := (∃ v, Boxed W (w.heap.size + 1) 61 v ∧ W.ownsRow w.heap.size 67 2 v pre.dropLast.length (pairVs pre.dropLast) ∧ (c = .exit 0 ∧ pre.dropLast.length = m.toNat)) ∧ Below w.heap.size w W
theorem toldI_own (m : Int) (w : World) (B : Nat) (h : w.heap.size ≤ B) : OwnFrom B (ToldI m w) :=
  OwnFrom.and (OwnFrom.and (Own.from (holdsRow_own w.heap.size (w.heap.size + 1) 61 67 2 (fun pre : List AllX => pre.length) (fun pre => pairVs pre) (fun pre v => pre.length ≤ m.toNat)) _) (Own.from (boxed_own w.heap.size 3 (fun _ : List AllX => .int .i64 m)) _)) (ownFrom_below (Nat.le_refl _) h)
theorem toldX_own (m : Int) (w : World) (B : Nat) (h : w.heap.size ≤ B) (c : Code) : OwnFrom B (ToldX m w c) :=
  OwnFrom.and (Own.from (holdsRow_own w.heap.size (w.heap.size + 1) 61 67 2 (fun pre : List AllX => pre.dropLast.length) (fun pre => pairVs pre.dropLast) (fun pre v => c = .exit 0 ∧ pre.dropLast.length = m.toNat)) _) (ownFrom_below (Nat.le_refl _) h)
set_option maxRecDepth 100000 in
set_option maxHeartbeats 4000000 in
theorem told_in (x m : Int) (hx : I64 x) (hm : I64 m) (Bw : Nat) (w : World) (hb : Bw < w.heap.size) (hc : w.cell? ⟨Bw, 0, none⟩ = some (.int .i64 x)) :
    CallsIn Fence.wide 4 Try.prog 46 #[.func (.func 66) #[] #[.pointer (some ⟨Bw, 0, none⟩)], .int .i64 m] w (Told w ((allL x 8192).take m.toNat)) := by
  obtain ⟨i0, hi, hz0, hz1, hz2⟩ := info_parts pairInfo
  have hst := all_stops 3 (by decide) Bw w.heap.size x hx
  obtain ⟨L, hL⟩ : ∃ L, L = allL x 8192 := ⟨_, rfl⟩
  rw [← hL] at hst ⊢
  clear hL
  replace hst := Lib.hid hst
  refine callsIn_of_wp_marks Try.func46 rfl trivial ?_ rfl
  simp only [Try.ntmps46, List.size_toArray, List.length_cons, List.length_nil, Nat.reduceAdd, Nat.reduceSub, Array.replicate_succ, Array.replicate_zero, List.push_toArray, List.append_toArray, List.nil_append, List.cons_append]
  have hnil : ∀ W, Sem.run Try.prog (binOp BinOp.eql 64 (.func (.func 66) #[] #[.pointer (some ⟨Bw, 0, none⟩)]) .nilFunc) W = .ok (.bool false) W := fun _ => by kernel_rfl
  gi_wp2
  have hW0 : Below w.heap.size w ((w.alloc (.cells #[.int .i64 m] 3)).alloc (.cells #[.slice none 0 0] 61)) := ((Below.refl _ w).alloc (Nat.le_refl _) _).alloc (by simp) _
  have bL := Boxed.new (w.alloc (.cells #[.int .i64 m] 3)) 61 (.slice none 0 0)
  rw [World.size_alloc] at bL
  have cM := (Boxed.new w 3 (.int .i64 m)).alloc (.cells #[.slice none 0 0] 61)
  have cB := (hW0.cell (p := ⟨Bw, 0, none⟩) hb).trans hc
  have zW : ((w.alloc (.cells #[.int .i64 m] 3)).alloc (.cells #[.slice none 0 0] 61)).heap.size = w.heap.size + 2 := by simp
  clear hnil
  refine wpIn_rangeFunc_ownG rfl (by decide) (gf := 66) (lb := #[.pointer (some ⟨Bw, 0, none⟩)]) rfl trivial (enters_of Try.func66 (by kernel_rfl) rfl)
    (hst.out _ hb (by omega) cB) belowK_t (belowK_b (by omega)) (Below.refl _ _) (fun _ => rfl)
    (ToldI m w) (ToldX m w) (toldI_own m w _ (by omega)) (fun c => toldX_own m w _ (by omega) c)
    ⟨⟨⟨_, bL, World.ownsRow_nil _ _ _ _, by simp⟩, cM⟩, hW0⟩
    (fun p => { tmps := #[(.func (.func 66) #[] #[.pointer (some ⟨Bw, 0, none⟩)]), .int .i64 m, undef, .pointer (some ⟨w.heap.size, 0, none⟩), .slice none 0 0, .pointer (some ⟨w.heap.size + 1, 0, none⟩), .int .i64 p.1.1, .int .u64 p.1.2, .func (.func 66) #[] #[.pointer (some ⟨Bw, 0, none⟩)], .bool false, .func (.func 66) #[] #[.pointer (some ⟨Bw, 0, none⟩)], .int .i64 p.1.1, .int .u64 p.1.2, undef, undef, undef, undef, undef, undef, undef, undef, undef, undef, undef], defers := [] }) ?assign ?body ?done ?stop
  case assign =>
    intro l p W K hK
    dsimp only [allEnc]
    gi_wp2
    exact hK
  case body =>
    clear bL cM cB hW0 zW
    rintro l pre p W ⟨⟨⟨v, hv, hrow, hlen⟩, hcm⟩, hB⟩ hlt
    have hcv := hv.cell
    have hcc := hcm.cell
    have hlv := len_own hrow
    by_cases hge : m ≤ (pre.length : Int)
    · have hpl : pre.length = m.toNat := by omega
      gi_wp2
      refine ⟨KeepsFrom.refl _ _, ⟨v, hv, ?_, rfl, ?_⟩, hB⟩
      · rw [List.dropLast_concat]; exact hrow
      · rw [List.dropLast_concat]; exact hpl
    · have hpl : pre.length + 1 ≤ m.toNat := by omega
      have hmx : 8192 ≤ maxLen := by unfold maxLen; omega
      have hnp := Lib.hid (pairVs_snoc pre p)
      gi_wp2_with (gi_at_builtin; show wpListIn _ _ _ _ _ ({ dst := _, op := Op.call { callee := Callee.builtin Builtin.append, args := _, argTypes := _ }, type := _, pos := _, after := _, guard := _ } :: _) _ _; refine wpListIn_append_own _ rfl _ _ 61 rfl w.heap.size 67 i0 (.agg #[.int .i64 0, .int .u64 0]) 2 16 Try.underlying61 hi hz0 hz1 hz2 rfl (by decide) _ _ _ rfl (hrow.alloc _) ⟨W.heap.size, 0, none⟩ 1 1 [.int .i64 p.1.1, .int .u64 p.1.2] rfl rfl (cell_two_new _ _ _ _) (by simp [Value.oneCell']) (by omega) (by omega) (by have := hB.size; simp; omega) ?_; intro v' w1 hown' hgrow _; obtain ⟨g', cap', rfl⟩ := ownsRow_succ hown'; obtain ⟨hv1, hv2, hr2, hk2, hb2⟩ := hv.appended (by decide) hrow hB.size (by omega) hown' hgrow; have hc1 := hv1.cell; have hf1 := hv1.frozen)
      have hmk : Boxed w1 w.heap.size 3 (.int .i64 m) := (hcm.alloc _).kept hgrow (hcm.not_row (by decide) hrow)
      have hl1 : (pre ++ [p]).length = pre.length + 1 := by simp
      refine ⟨hk2.from _, hb2, ⟨⟨_, hv2, ?_, ?_⟩, hmk.other (by omega) _⟩, hB.trans hb2⟩
      · rw [hnp.out, hl1]; exact hr2
      · rw [hl1]; exact hpl
  case done =>
    rintro D ys W hD rfl ⟨⟨⟨v, hv, hrow, hlen⟩, hcm⟩, hB⟩ hK
    have hc := hv.cell
    have htk : ys.take m.toNat = ys := List.take_of_length_le hlen
    gi_wp2
    refine ⟨by simp, .inl ⟨_, _, rfl, run_takeDeferred hK, ?_⟩⟩
    exact ⟨_, results_tmp rfl _ _ _, v, rfl, by rw [htk]; exact ownsRow_putObj hrow _ hK rfl, hB.trans (belowK_b (w := w) (Nat.le_refl _) W D _ _ (by omega) hK rfl rfl)⟩
  case stop =>
    rintro D c pre W hD hpre ⟨⟨v, hv, hrow, rfl, hlen⟩, hB⟩ hK
    have hc := hv.cell
    have htk : L.take m.toNat = pre.dropLast := by
      rw [← hlen]
      exact (List.prefix_iff_eq_take.1 ((List.dropLast_prefix pre).trans hpre)).symm
    gi_wp2
    refine ⟨by simp, .inl ⟨_, _, rfl, run_takeDeferred hK, ?_⟩⟩
    exact ⟨_, results_tmp rfl _ _ _, v, rfl, by rw [htk]; exact ownsRow_putObj hrow _ hK rfl, hB.trans (belowK_b (w := w) (Nat.le_refl _) W D _ _ (by omega) hK rfl rfl)⟩
end Go.Proofs.Ytjojflodhghdbaa
