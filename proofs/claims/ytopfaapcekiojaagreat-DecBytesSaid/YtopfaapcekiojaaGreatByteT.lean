/- told: the words that an iterator of dec.All tells, and their instructions, at most so many. -/
import Derived.Test.YtopfaapcekiojaaGreatByteB
import Derived.RangeFuncBox
import Derived.RangeFuncNested
import Derived.Lib.QuietBelowIn
import Derived.Sort.BigQuietIn
namespace Go.Proofs.YtopfaapcekiojaaGreat
open Go.RowKit Go.Sort Go.Shelf Sym Two
attribute [local go_sem] Oper.semAt_some cell_gr frozen_gr wide_fn asked_wide
set_option linter.unusedVariables false
set_option linter.unusedSimpArgs false

theorem u32Info' : (Tryz.prog.info? 22).map (fun i => (i.zero, i.size, i.bytes)) = some (some (.int .u32 0), 1, 4) := by kernel_rfl
theorem instInfo : (Tryz.prog.info? 24).map (fun i => (i.zero, i.size, i.bytes)) = some (some (.agg #[.int .i64 0, .bool false, .bool false, .int .i64 0, .int .i64 0, .int .i64 0, .int .i64 0, .int .i64 0, .int .i64 0, .int .i64 0]), 10, 72) := by kernel_rfl
def wdV (p : BX) : Value := .int .u32 p.1.1
def wdVs (l : List BX) : List Value := l.map wdV
def inVs (l : List BX) : List Value := l.flatMap fun p => cellsI' p.1.2
theorem wdVs_snoc (l : List BX) (p : BX) : wdVs (l ++ [p]) = wdVs l ++ [wdV p] := by simp [wdVs]
theorem inVs_snoc (l : List BX) (p : BX) : inVs (l ++ [p]) = inVs l ++ cellsI' p.1.2 := by simp [inVs]
theorem wdVs_len (l : List BX) : (wdVs l).length = l.length := by simp [wdVs]
theorem len_wd {W : World} {base k : Nat} {v : Value} {xs : List Value} (h : W.ownsRow base 22 1 v k xs) : ∀ W', Sem.run Tryz.prog (Builtin.len_ #[38] 3 #[v]) W' = .ok (.int .i64 k) W' := fun W' => by
  rcases h.2 with ⟨rfl, rfl⟩ | ⟨g, cap, cur, rfl, _⟩ <;> kernel_rfl
/-- rows of other elements lie apart -/
theorem rows_apart {W : World} {b1 b2 s1 s2 k1 k2 : Nat} {e1 e2 : TypeId} {v1 v2 : Value} {x1 x2 : List Value} (h1 : W.ownsRow b1 e1 s1 v1 k1 x1) (h2 : W.ownsRow b2 e2 s2 v2 k2 x2) (hne : e1 ≠ e2) : v1.ownBlock = none ∨ v1.ownBlock ≠ v2.ownBlock := by
  rcases h1.2 with ⟨rfl, _⟩ | ⟨g1, c1, cur1, rfl, _, hg1, _⟩
  · exact .inl rfl
  · refine .inr fun e => ?_
    rcases h2.2 with ⟨rfl, _⟩ | ⟨g2, c2, cur2, rfl, _, hg2, _⟩
    · cases e
    · have : g1 = g2 := by simpa [Value.ownBlock] using e
      subst this
      rw [hg1] at hg2
      cases hg2
      exact hne rfl
theorem cells_new {w : World} {cs : List Value} {t : TypeId} : ∀ j u, cs[j]? = some u → (w.alloc (.cells cs.toArray t)).cell? ((⟨w.heap.size, 0, none⟩ : Addr).add j) = some u := by
  intro j u hj
  rw [add_lit', Nat.zero_add]
  simp only [World.cell?, World.alloc_heap_new]
  simpa using hj
theorem cells_new' {w : World} {cs : List Value} {t : TypeId} {n : Nat} (hn : w.heap.size = n) : ∀ j u, cs[j]? = some u → (w.alloc (.cells cs.toArray t)).cell? ((⟨n, 0, none⟩ : Addr).add j) = some u := by
  subst hn
  exact cells_new
theorem cellsI_one (y : Ins) : ∀ u ∈ cellsI' y, u.oneCell' = true := fun u hu => by
  simp only [cellsI', List.mem_cons, List.not_mem_nil, or_false] at hu
  rcases hu with rfl | rfl | rfl | rfl | rfl | rfl | rfl | rfl | rfl | rfl <;> rfl
theorem cells_not_row {W : World} {b : Nat} {cs : Array Value} {t e : TypeId} {fr : Nat × Nat} (h : W.heap[b]? = some (.cells cs t fr)) (hte : t ≠ e) {base size k : Nat} {v : Value} {xs : List Value} (hr : W.ownsRow base e size v k xs) : some b ≠ v.ownBlock := by
  rcases hr.2 with ⟨rfl, _⟩ | ⟨g, cap, cur, rfl, _, hg, _⟩
  · intro h; cases h
  · intro e'
    have : b = g := by simpa [Value.ownBlock] using e'
    subst this
    rw [h] at hg
    cases hg
    exact hte rfl
theorem fold_cells (y : Ins) : List.foldl (fun (cs : Array Value) (x : Value × Nat) => cs.setIfInBounds x.snd x.fst) #[.int .i64 0, .bool false, .bool false, .int .i64 0, .int .i64 0, .int .i64 0, .int .i64 0, .int .i64 0, .int .i64 0, .int .i64 0] (cellsI' y).zipIdx = (cellsI' y).toArray := by kernel_rfl
theorem len_cells (y : Ins) : (cellsI' y).length = 10 := rfl
attribute [local go_sem] fold_cells len_cells
def TI (m : Int) (w : World) (pre : List BX) (W : World) : Prop :=
  (((∃ v, Boxed W (w.heap.size + 1) 38 v ∧ W.ownsRow w.heap.size 22 1 v pre.length (wdVs pre) ∧ pre.length ≤ m.toNat) ∧ (∃ v, Boxed W (w.heap.size + 1 + 1) 40 v ∧ W.ownsRow w.heap.size 24 10 v pre.length (inVs pre) ∧ True)) ∧ Boxed W w.heap.size 3 (.int .i64 m)) ∧ Below w.heap.size w W
def TX (m : Int) (w : World) (c : Code) (pre : List BX) (W : World) : Prop :=
  ((∃ v, Boxed W (w.heap.size + 1) 38 v ∧ W.ownsRow w.heap.size 22 1 v pre.dropLast.length (wdVs pre.dropLast) ∧ (c = .exit 0 ∧ pre.dropLast.length = m.toNat)) ∧ (∃ v, Boxed W (w.heap.size + 1 + 1) 40 v ∧ W.ownsRow w.heap.size 24 10 v pre.dropLast.length (inVs pre.dropLast) ∧ True)) ∧ Below w.heap.size w W
theorem tI_own (m : Int) (w : World) (B : Nat) (h : w.heap.size ≤ B) : OwnFrom B (TI m w) :=
  OwnFrom.and (OwnFrom.and (OwnFrom.and (Own.from (holdsRow_own w.heap.size (w.heap.size + 1) 38 22 1 (fun pre : List BX => pre.length) (fun pre => wdVs pre) (fun pre v => pre.length ≤ m.toNat)) _) (Own.from (holdsRow_own w.heap.size (w.heap.size + 1 + 1) 40 24 10 (fun pre : List BX => pre.length) (fun pre => inVs pre) (fun pre v => True)) _)) (Own.from (boxed_own w.heap.size 3 (fun _ : List BX => .int .i64 m)) _)) (ownFrom_below (Nat.le_refl _) h)
theorem tX_own (m : Int) (w : World) (B : Nat) (h : w.heap.size ≤ B) (c : Code) : OwnFrom B (TX m w c) :=
  OwnFrom.and (OwnFrom.and (Own.from (holdsRow_own w.heap.size (w.heap.size + 1) 38 22 1 (fun pre : List BX => pre.dropLast.length) (fun pre => wdVs pre.dropLast) (fun pre v => c = .exit 0 ∧ pre.dropLast.length = m.toNat)) _) (Own.from (holdsRow_own w.heap.size (w.heap.size + 1 + 1) 40 24 10 (fun pre : List BX => pre.dropLast.length) (fun pre => inVs pre.dropLast) (fun pre v => True)) _)) (ownFrom_below (Nat.le_refl _) h)
/-- words and their instructions in new rows -/
def ToldB (W : World) (L : List BX) (e : Ending) (W' : World) : Prop := ∃ v1 v2, e = .returned (.tuple #[v1, v2]) ∧ W'.ownsRow W.heap.size 22 1 v1 L.length (wdVs L) ∧ W'.ownsRow W.heap.size 24 10 v2 L.length (inVs L) ∧ Below W.heap.size W W'
theorem row_below' {W W' : World} {base size k : Nat} {e : TypeId} {v : Value} {xs : List Value} (h : W.ownsRow base e size v k xs) (hb : Below W.heap.size W W') : W'.ownsRow base e size v k xs :=
  h.kept (grown_of' hb) (by
    rcases h.2 with ⟨rfl, _⟩ | ⟨g, cap, cur, rfl, _⟩
    · exact .inl rfl
    · exact .inr (by simp [Value.ownBlock]))
/-- the frame in a round -/
def tAct (m : Int) (w : World) (Bw : Nat) (x : BX) (b : Nat) : Act := { tmps := #[.func (.func 37) #[] #[.pointer (some ⟨Bw, 0, none⟩)], .int .i64 m, undef, .pointer (some ⟨w.heap.size, 0, none⟩), .slice none 0 0, .slice none 0 0, .pointer (some ⟨w.heap.size + 1, 0, none⟩), .pointer (some ⟨w.heap.size + 1 + 1, 0, none⟩), .int .u32 x.1.1, .pointer (some ⟨b, 0, none⟩), .func (.func 37) #[] #[.pointer (some ⟨Bw, 0, none⟩)], .bool false, .func (.func 37) #[] #[.pointer (some ⟨Bw, 0, none⟩)], .int .u32 x.1.1, .agg (cellsI' x.1.2).toArray, undef, undef, undef, undef, undef, undef, undef, undef, undef, undef, undef, undef, undef, undef], defers := [] }
set_option maxRecDepth 100000 in
set_option maxHeartbeats 4000000 in
theorem told_in (m : Int) (hm : I64 m) (Bw : Nat) (A : Option Addr) (nb cb : Nat) (l : List Int) (hl : Bys l) (w : World) (hb : Bw < w.heap.size) (hc : w.cell? ⟨Bw, 0, none⟩ = some (.slice A nb cb)) (hrow : BRowB w.heap.size w A nb l) (hnb : nb ≤ cb ∧ nb ≤ 2000) :
    CallsIn Fence.wide 4 Tryz.prog 16 #[.func (.func 37) #[] #[.pointer (some ⟨Bw, 0, none⟩)], .int .i64 m] w (ToldB w ((bxL l hl (nb / 4)).take m.toNat)) := by
  obtain ⟨i1, hi, hz0, hz1, hz2⟩ := info_parts u32Info'
  obtain ⟨i2, hj, hy0, hy1, hy2⟩ := info_parts instInfo
  have hst := fun W => dall_stops 3 (by decide) Bw w.heap.size A nb cb l hl W hb
  have hlen : (bxL l hl (nb / 4)).length ≤ 500 := by rw [bxL_len]; omega
  obtain ⟨L, hL⟩ : ∃ L, L = bxL l hl (nb / 4) := ⟨_, rfl⟩
  rw [← hL] at hst hlen ⊢
  clear hL
  replace hst := Lib.hid hst
  refine callsIn_of_wp_marks Tryz.func16 rfl trivial ?_ rfl
  simp only [Tryz.ntmps16, List.size_toArray, List.length_cons, List.length_nil, Nat.reduceAdd, Nat.reduceSub, Array.replicate_succ, Array.replicate_zero, List.push_toArray, List.append_toArray, List.nil_append, List.cons_append]
  have hnil : ∀ W, Sem.run Tryz.prog (binOp BinOp.eql 44 (.func (.func 37) #[] #[.pointer (some ⟨Bw, 0, none⟩)]) .nilFunc) W = .ok (.bool false) W := fun _ => by kernel_rfl
  gi_wp2
  have hW0 : Below w.heap.size w (((w.alloc (.cells #[.int .i64 m] 3)).alloc (.cells #[.slice none 0 0] 38)).alloc (.cells #[.slice none 0 0] 40)) := (((Below.refl _ w).alloc (Nat.le_refl _) _).alloc (by simp) _).alloc (by simp; omega) _
  have b2 := Boxed.new ((w.alloc (.cells #[.int .i64 m] 3)).alloc (.cells #[.slice none 0 0] 38)) 40 (.slice none 0 0)
  have b1 := (Boxed.new (w.alloc (.cells #[.int .i64 m] 3)) 38 (.slice none 0 0)).alloc (.cells #[.slice none 0 0] 40)
  rw [World.size_alloc, World.size_alloc] at b2
  rw [World.size_alloc] at b1
  have cM := ((Boxed.new w 3 (.int .i64 m)).alloc (.cells #[.slice none 0 0] 38)).alloc (.cells #[.slice none 0 0] 40)
  have cB := (hW0.cell (p := ⟨Bw, 0, none⟩) hb).trans hc
  have rB := hrow.below hW0
  have zW : (((w.alloc (.cells #[.int .i64 m] 3)).alloc (.cells #[.slice none 0 0] 38)).alloc (.cells #[.slice none 0 0] 40)).heap.size = w.heap.size + 3 := by simp
  clear hnil hc hrow
  generalize (((w.alloc (.cells #[.int .i64 m] 3)).alloc (.cells #[.slice none 0 0] 38)).alloc (.cells #[.slice none 0 0] 40)) = W0 at *
  refine wpIn_rangeFunc_ownH rfl (by decide) (gf := 37) (lb := #[.pointer (some ⟨Bw, 0, none⟩)]) rfl trivial (enters_of Tryz.func37 (by kernel_rfl) rfl)
    (hst.out _ (by omega) cB rB hnb (Below w.heap.size) 0 (fun W W' h => ⟨h.size, fun k _ hk => h.block k hk⟩) (Nat.zero_le _) (fun a _ => Nat.zero_le _)) belowK_t (belowK_b (by omega)) (Below.refl _ _) (fun _ => rfl)
    (TI m w) (TX m w) (tI_own m w _ (by omega)) (fun c => tX_own m w _ (by omega) c)
    ⟨⟨⟨⟨_, b1, World.ownsRow_nil _ _ _ _, by simp⟩, ⟨_, b2, World.ownsRow_nil _ _ _ _, trivial⟩⟩, cM⟩, hW0⟩
    (fun x a' W => ∃ b : Nat, a' = tAct m w Bw x b ∧ W.heap[b]? = some (.cells (cellsI' x.1.2).toArray 24 (0, 0)))
    (fun x a' => Own.from (fun s X Y row hs hg hr => by
      obtain ⟨b, h1, h2⟩ := hs
      exact ⟨b, h1, (hg.block b (Array.getElem?_eq_some_iff.1 h2).1 (fun e => by obtain ⟨o, ho, hc⟩ := hr b e.symm; rw [h2] at ho; cases ho; cases hc)).trans h2⟩) _) ?assign ?body ?done ?stop
  case assign =>
    intro lo pre x W K hI hK
    dsimp only [bxEnc]
    gi_wp2_with (show wpListIn _ _ _ _ _ ({ dst := _, op := Op.store _ _ _, type := _, pos := _, after := _, guard := _ } :: _) _ _; refine wpListIn_store_row rfl 24 _ _ rfl W.heap.size (cellsI' x.1.2).toArray rfl rfl 24 _ (World.alloc_heap_new _ _) (by kernel_rfl) (by simp [cellsI']) (by simp [cellsI', Value.oneCell']) ?_; rw [World.setRow_alloc_new])
    exact hK _ _ ((KeepsOthers.alloc W _).from _) ((Below.refl _ W).alloc hI.2.size _) ((tI_own m w w.heap.size (Nat.le_refl _)).alloc _ hI) ⟨_, rfl, World.alloc_heap_new _ _⟩
  case body =>
    clear b1 b2 cM cB rB hW0 zW
    rintro lo pre x a' W _ _ ⟨⟨⟨⟨v1, hv1, hr1, hlen1⟩, ⟨v2, hv2, hr2, _⟩⟩, hM⟩, hB⟩ ⟨b, rfl, hbk⟩ hlt
    have hcv := hv1.cell
    have hcm := hM.cell
    have hlv := len_wd hr1
    unfold tAct
    by_cases hge : m ≤ (pre.length : Int)
    · have hpl : pre.length = m.toNat := by omega
      gi_wp2
      refine ⟨KeepsFrom.refl _ _, ⟨⟨v1, hv1, ?_, rfl, ?_⟩, ⟨v2, hv2, ?_, trivial⟩⟩, hB⟩
      · rw [List.dropLast_concat]; exact hr1
      · rw [List.dropLast_concat]; exact hpl
      · rw [List.dropLast_concat]; exact hr2
    · have hpl : pre.length + 1 ≤ m.toNat := by omega
      have hmx : 600 ≤ maxLen := by unfold maxLen; omega
      have hnp := Lib.hid (wdVs_snoc pre x)
      have hnq := Lib.hid (inVs_snoc pre x)
      have hsz := hB.size
      have hn1 : ([Value.int .u32 x.1.1] : List Value).length = 1 * 1 := rfl
      gi_wp2_with (first
        | (gi_at_builtin; show wpListIn _ _ _ _ _ ({ dst := _, op := Op.call { callee := Callee.builtin Builtin.append, args := _, argTypes := _ }, type := _, pos := _, after := _, guard := _ } :: _) _ _; refine wpListIn_append_own _ rfl _ _ 38 rfl w.heap.size 22 i1 (.int .u32 0) 1 4 Tryz.underlying38 hi hz0 hz1 hz2 rfl (by decide) _ _ _ rfl (hr1.alloc _) ⟨W.heap.size, 0, none⟩ 1 1 [.int .u32 x.1.1] rfl rfl (cells_new) (by simp [Value.oneCell']) (by omega) (by omega) (by simp; omega) ?_; intro v1' w1 hown1 hgrow1 _; obtain ⟨g1, cap1, rfl⟩ := ownsRow_succ hown1; obtain ⟨hv1a, hv1b, hr1b, hk1, hb1⟩ := hv1.appended (by decide) hr1 hsz (by omega) hown1 hgrow1; have hc1 := hv1a.cell; have hf1 := hv1a.frozen; have hv2a := (hv2.alloc (.cells #[.int .u32 x.1.1] 22)).kept hgrow1 (hv2.not_row (by decide) hr1); have hMa := (hM.alloc (.cells #[.int .u32 x.1.1] 22)).kept hgrow1 (hM.not_row (by decide) hr1); have hr2a := (hr2.alloc (.cells #[.int .u32 x.1.1] 22)).kept hgrow1 (rows_apart hr2 hr1 (by decide)); have hc2 := hv2a.cell; have hf2 := hv2a.frozen; have hba := (hgrow1.block b (by have := (Array.getElem?_eq_some_iff.1 hbk).1; rw [World.size_alloc]; omega) (cells_not_row hbk (by decide) hr1)).trans ((Below.heap_alloc W (.cells #[.int .u32 x.1.1] 22) b (Array.getElem?_eq_some_iff.1 hbk).1).trans hbk); have hbne : b ≠ w.heap.size + 1 := (fun e => by subst e; rw [show w1.heap[w.heap.size + 1]? = _ from hv1a] at hba; cases hba); have hb2k := (heap_setCell_other w1 ⟨w.heap.size + 1, 0, none⟩ b (Value.slice (some ⟨g1, 0, none⟩) (pre.length + 1) cap1) hbne).trans hba; have hr2b := hr2a.kept (grownBy_setCell' w1 (w.heap.size + 1) (Value.slice (some ⟨g1, 0, none⟩) (pre.length + 1) cap1)) (.inr (hv1a.not_row (by decide) hr2a).symm); have hv2b := hv2a.other (show w.heap.size + 1 + 1 ≠ w.heap.size + 1 by omega) (Value.slice (some ⟨g1, 0, none⟩) (pre.length + 1) cap1); have hMb := hMa.other (show w.heap.size ≠ w.heap.size + 1 by omega) (Value.slice (some ⟨g1, 0, none⟩) (pre.length + 1) cap1); have hsz1 := Nat.le_trans hsz hb1.size)
        | (show wpListIn _ _ _ _ _ ({ dst := _, op := Op.load 24 _, type := _, pos := _, after := _, guard := _ } :: _) _ _; refine wpListIn_load_row rfl 24 _ rfl b rfl 24 (cellsI' x.1.2).toArray (0, 0) _ hb2k Tryz.underlying24 rfl (by kernel_rfl) ?_)
        | (gi_at_builtin; show wpListIn _ _ _ _ _ ({ dst := _, op := Op.call { callee := Callee.builtin Builtin.append, args := _, argTypes := _ }, type := _, pos := _, after := _, guard := _ } :: _) _ _; refine wpListIn_append_own _ rfl _ _ 40 rfl w.heap.size 24 i2 _ 10 72 Tryz.underlying40 hj hy0 hy1 hy2 rfl (by decide) _ _ _ rfl (hr2b.alloc _) ⟨w1.heap.size, 0, none⟩ 1 1 (cellsI' x.1.2) rfl rfl (cells_new' (by simp)) (cellsI_one _) (by omega) (by omega) (by rw [World.size_alloc]; omega) ?_; intro v2' w2 hown2 hgrow2 _; obtain ⟨g2, cap2, rfl⟩ := ownsRow_succ hown2; obtain ⟨hv2c, hv2d, hr2d, hk2, hb2⟩ := hv2b.appended (by decide) hr2b hsz1 (by omega) hown2 hgrow2; have hc3 := hv2c.cell; have hf3 := hv2c.frozen))
      have hl1 : (pre ++ [x]).length = pre.length + 1 := by simp
      have hr1c := (hr1b.alloc (.cells (cellsI' x.1.2).toArray 24)).kept hgrow2 (rows_apart (hr1b.alloc (.cells (cellsI' x.1.2).toArray 24)) (hr2b.alloc (.cells (cellsI' x.1.2).toArray 24)) (by decide))
      have hv1c := (hv1b.alloc (.cells (cellsI' x.1.2).toArray 24)).kept hgrow2 (hv1b.not_row (by decide) hr2b)
      have hMc := (hMb.alloc (.cells (cellsI' x.1.2).toArray 24)).kept hgrow2 (hMb.not_row (by decide) hr2b)
      refine ⟨(hk1.trans hk2).from _, hb1.trans hb2, ⟨⟨⟨_, hv1c.other (by omega) _, ?_, ?_⟩, ⟨_, hv2d, ?_, trivial⟩⟩, hMc.other (by omega) _⟩, hB.trans (hb1.trans hb2)⟩
      · rw [hnp.out, hl1]; exact hr1c.kept (grownBy_setCell' w2 _ _) (.inr (hv2c.not_row (by decide) hr1c).symm)
      · rw [hl1]; exact hpl
      · rw [hnq.out, hl1]; exact hr2d
  case done =>
    rintro D ys W hD rfl ⟨⟨⟨⟨v1, hv1, hr1, hlen1⟩, ⟨v2, hv2, hr2, _⟩⟩, hM⟩, hB⟩ hK
    have hc1 := hv1.cell
    have hc2 := hv2.cell
    have htk : ys.take m.toNat = ys := List.take_of_length_le hlen1
    gi_wp2
    have hz1 := hv1.lt
    have hz2 := hv2.lt
    have hzD := (Array.getElem?_eq_some_iff.1 hK).1
    refine wpIn_region_quiet_below rfl (by kernel_rfl) (by kernel_rfl) ?_
    repeat (gi_big_quiet_step (fail))
    refine wpQuietIn_nil ?_
    intro w3 hw3
    have hb3 := of_gr hw3
    clear hw3
    have hK3 := (hb3.block D hzD).trans hK
    gi_wp2
    refine ⟨by simp, .inl ⟨_, _, rfl, run_takeDeferred hK3, ?_⟩⟩
    exact ⟨_, results_tmp2 rfl _ _ _, v1, v2, rfl, by rw [htk]; exact ownsRow_putObj (row_below' hr1 hb3) _ hK3 rfl, by rw [htk]; exact ownsRow_putObj (row_below' hr2 hb3) _ hK3 rfl, (bthen hB hb3 hB.size).trans (belowK_b (w := w) (Nat.le_refl _) w3 D _ _ (by omega) hK3 rfl rfl)⟩
  case stop =>
    rintro D c pre W hD hpre ⟨⟨⟨v1, hv1, hr1, rfl, hlen1⟩, ⟨v2, hv2, hr2, _⟩⟩, hB⟩ hK
    have hc1 := hv1.cell
    have hc2 := hv2.cell
    have htk : L.take m.toNat = pre.dropLast := by
      rw [← hlen1]
      exact (List.prefix_iff_eq_take.1 ((List.dropLast_prefix pre).trans hpre)).symm
    gi_wp2
    have hz1 := hv1.lt
    have hz2 := hv2.lt
    have hzD := (Array.getElem?_eq_some_iff.1 hK).1
    refine wpIn_region_quiet_below rfl (by kernel_rfl) (by kernel_rfl) ?_
    repeat (gi_big_quiet_step (fail))
    refine wpQuietIn_nil ?_
    intro w3 hw3
    have hb3 := of_gr hw3
    clear hw3
    have hK3 := (hb3.block D hzD).trans hK
    gi_wp2
    refine ⟨by simp, .inl ⟨_, _, rfl, run_takeDeferred hK3, ?_⟩⟩
    exact ⟨_, results_tmp2 rfl _ _ _, v1, v2, rfl, by rw [htk]; exact ownsRow_putObj (row_below' hr1 hb3) _ hK3 rfl, by rw [htk]; exact ownsRow_putObj (row_below' hr2 hb3) _ hK3 rfl, (bthen hB hb3 hB.size).trans (belowK_b (w := w) (Nat.le_refl _) w3 D _ _ (by omega) hK3 rfl rfl)⟩
end Go.Proofs.YtopfaapcekiojaaGreat
