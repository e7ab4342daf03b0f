/- The bytes of instructions, one behind the other: enc.Words and the reference's Words. -/
import Derived.Test.YtopfaapcekiojaaGreatDecI
import Derived.Test.YtopfaapcekiojaaGreatEachW
import Derived.Deep.MidRow
import Derived.Deep.WholeRow
import Derived.Laws.OwnMore
import Derived.Laws.BytesArg
import Derived.Handy
namespace Go.Proofs.YtopfaapcekiojaaGreat
open Go.RowKit Go.Sort Go.Shelf Go.Joins Sym
attribute [local go_sem] cell_gr frozen_gr
set_option linter.unusedVariables false

theorem w_ex (y : Ins) : ∃ p : Int × Int, y.wf → U32 p.1 ∧ (∀ W, Calls Tryz.prog 23 #[y.val] W (Ret (.tuple #[.int .u32 p.1, .int .i64 p.2]) W)) ∧ (∀ W, Calls Tryz.prog 12 #[y.val] W (Ret (.tuple #[.int .u32 p.1, .int .i64 p.2]) W)) := by
  by_cases hy : y.wf
  · obtain ⟨v, z, h1, h2, h3, _⟩ := enc_two y hy
    exact ⟨(v, z), fun _ => ⟨h1, h2, h3⟩⟩
  · exact ⟨(0, 0), fun h => absurd h hy⟩
/-- an instruction's word, and its error -/
noncomputable def wV (y : Ins) : Int := (Classical.choose (w_ex y)).1
noncomputable def wE (y : Ins) : Int := (Classical.choose (w_ex y)).2
theorem w_is (y : Ins) (hy : y.wf) : U32 (wV y) ∧ (∀ W, Calls Tryz.prog 23 #[y.val] W (Ret (.tuple #[.int .u32 (wV y), .int .i64 (wE y)]) W)) ∧ (∀ W, Calls Tryz.prog 12 #[y.val] W (Ret (.tuple #[.int .u32 (wV y), .int .i64 (wE y)]) W)) := Classical.choose_spec (w_ex y) hy
def by4 (x : Int) : List Value := [.int .u8 (byteI x 0), .int .u8 (byteI x 1), .int .u8 (byteI x 2), .int .u8 (byteI x 3)]
/-- the bytes so far and what is left: bytes, where it ended, the error -/
noncomputable def outW : Nat → List Value → List Ins → List Value × Nat × Int
  | k, o, [] => (o, k, 0)
  | k, o, y :: r => if wE y = 0 then outW (k + 1) (o ++ by4 (wV y)) r else ([], k, wE y)
theorem outW_ok (ys : List Ins) (k : Nat) (o : List Value) (h : k < ys.length) (he : wE ys[k] = 0) : outW k o (ys.drop k) = outW (k + 1) (o ++ by4 (wV ys[k])) (ys.drop (k + 1)) := by
  rw [List.drop_eq_getElem_cons h, outW, if_pos he]
theorem outW_bad (ys : List Ins) (k : Nat) (o : List Value) (h : k < ys.length) (he : wE ys[k] ≠ 0) : outW k o (ys.drop k) = ([], k, wE ys[k]) := by
  rw [List.drop_eq_getElem_cons h, outW, if_neg he]
theorem outW_end (ys : List Ins) (o : List Value) : outW ys.length o (ys.drop ys.length) = (o, ys.length, 0) := by
  rw [List.drop_eq_nil_of_le (Nat.le_refl _)]; rfl
def Ins.cells (y : Ins) : List Value := [.int .i64 y.op, .bool y.x, .bool y.s, .int .i64 y.rd, .int .i64 y.rn, .int .i64 y.rm, .int .i64 y.ra, .int .i64 y.a, .int .i64 y.b, .int .i64 y.c]
theorem Ins.val_cells (y : Ins) : y.val = .agg y.cells.toArray := rfl
/-- instructions that lie in a row -/
def IRow (w : World) (A : Option Addr) (n : Nat) (ys : List Ins) : Prop :=
  ys.length = n ∧ (∀ y ∈ ys, y.wf) ∧ (0 < n → ∃ b off, A = some ⟨b, off, none⟩ ∧ b < w.heap.size ∧ ∀ k (h : k < ys.length), w.rangeAt b (off + k * 10) ys[k].cells)
theorem IRow.keep {w w' : World} {A : Option Addr} {n : Nat} {ys : List Ins} (h : IRow w A n ys) (hb : Below w.heap.size w w') : IRow w' A n ys := by
  refine ⟨h.1, h.2.1, fun hn => ?_⟩
  obtain ⟨b, off, e, hlt, hc⟩ := h.2.2 hn
  refine ⟨b, off, e, Nat.lt_of_lt_of_le hlt hb.size, fun k hk j v hj => ?_⟩
  rw [(bcell hb).1 _ _ hlt]
  exact hc k hk j v hj
/-- what comes of it -/
def WordsGot (ys : List Ins) (w : World) (e : Ending) (w' : World) : Prop :=
  ∃ v, e = .returned (.tuple #[v, .int .i64 ((outW 0 [] ys).2.1 : Nat), .int .i64 (outW 0 [] ys).2.2]) ∧ w'.ownsRow w.heap.size 5 1 v (outW 0 [] ys).1.length (outW 0 [] ys).1 ∧ Below w.heap.size w w'
theorem four_news {W : World} {g : Nat} {x : Int} (h : Four W g (byteI x)) : ∀ j u, (by4 x)[j]? = some u → W.cell? ((⟨g, 0, none⟩ : Addr).add j) = some u := by
  intro j u hj
  have hlt : j < 4 := by
    rcases Nat.lt_or_ge j 4 with q | q
    · exact q
    · rw [List.getElem?_eq_none (by simpa [by4] using q)] at hj; cases hj
  rw [Addr.add_mid, Nat.zero_add, (h j hlt).1]
  have hj' : j = 0 ∨ j = 1 ∨ j = 2 ∨ j = 3 := by omega
  rcases hj' with rfl | rfl | rfl | rfl <;> simpa [by4] using hj
theorem by4_one (x : Int) : ∀ u ∈ by4 x, u.oneCell' = true := by
  intro u hu
  simp only [by4, List.mem_cons, List.not_mem_nil, or_false] at hu
  rcases hu with rfl | rfl | rfl | rfl <;> rfl

set_option maxRecDepth 100000 in
theorem rbytes_any (x : Int) (hx : U32 x) (w : World) : Calls Tryz.prog 41 #[.int .u32 x] w (BytesAt x w) := by
  obtain ⟨x1, x2⟩ := hx
  go_enter Tryz.func41, Tryz.ntmps41
  go_wp2
  go_ret
  refine ⟨rfl, fun j hj => ?_, by simp, bnew _ _⟩
  have hj' : j = 0 ∨ j = 1 ∨ j = 2 ∨ j = 3 := by omega
  rcases hj' with rfl | rfl | rfl | rfl <;> simp [byteI]
  omega

theorem byteInfo : (Tryz.prog.info? 5).map (fun i => (i.zero, i.size, i.bytes)) = some (some (.int .u8 0), 1, 1) := by kernel_rfl
theorem grown_of {W W' : World} (h : Below W.heap.size W W') : W.grownBy W' none := ⟨h.os, h.tape, h.output, h.size, fun k hk _ => h.block k hk⟩
theorem orow_below {W W' : World} {base : Nat} {e : TypeId} {sz : Nat} {v : Value} {n : Nat} {xs : List Value} (h : W.ownsRow base e sz v n xs) (hb : Below W.heap.size W W') : W'.ownsRow base e sz v n xs :=
  World.ownsRow.kept h (grown_of hb) (by
    rcases h.2 with ⟨rfl, _⟩ | ⟨g, cap, cur, rfl, _⟩
    · exact .inl rfl
    · exact .inr (by simp [Value.ownBlock]))

set_option maxRecDepth 100000 in
set_option maxHeartbeats 4000000 in
theorem words_any (A : Option Addr) (n ca : Nat) (ys : List Ins) (w : World) (hr : IRow w A n ys) (hn : n ≤ 500) :
    Calls Tryz.prog 24 #[.slice A n ca] w (WordsGot ys w) := by
  have hl := hr.1
  obtain ⟨i0, hi, hz0, hz1, hz2⟩ := info_parts byteInfo
  go_enter Tryz.func24, Tryz.ntmps24
  go_wp2
  go_loopw [5, 12] (fun l i wr => ∃ (k : Nat) (o : List Value), k ≤ n ∧ i = .int .i64 k ∧ Hid (o.length = 4 * k) ∧ wr.ownsRow w.heap.size 5 1 l (4 * k) o ∧ Hid (outW k o (ys.drop k) = outW 0 [] ys) ∧ Below w.heap.size w wr) (fun _ i _ => (n - RowKit.intOf i).toNat)
  case atStart => exact ⟨0, [], by omega, rfl, Lib.hid rfl, World.ownsRow_nil _ _ _ _, Lib.hid rfl, Below.refl _ _⟩
  case round =>
    obtain ⟨k, o, hk, rfl, ho, hrow, hp, hB⟩ := hrel
    have hsz := hB.size
    by_cases hlt : k < n
    · have hkl : k < ys.length := by omega
      obtain ⟨b, off, rfl, hb, hc⟩ := (hr.keep hB).2.2 (by omega)
      have hck := hc k hkl
      have hy := hr.2.1 _ (List.getElem_mem hkl)
      have HO := Lib.hid (outW_ok ys k o hkl)
      have HX := Lib.hid (outW_bad ys k o hkl)
      clear hc
      generalize ys[k] = y at *
      obtain ⟨e1, e2, _⟩ := w_is y hy
      have e2' : ∀ W, Calls Tryz.prog 23 #[.agg y.cells.toArray] W (Ret (.tuple #[.int .u32 (wV y), .int .i64 (wE y)]) W) := e2
      clear e2
      by_cases hE : wE y = 0
      · have hp2 : Hid (outW (k + 1) (o ++ by4 (wV y)) (ys.drop (k + 1)) = outW 0 [] ys) := Lib.hid (by rw [← HO.out hE, hp.out])
        rw [hE] at e2'
        clear HO HX hE hp
        generalize wV y = x at *
        go_wp2_with (first
          | (refine wpList_load_mid rfl 24 _ rfl b (off + k * 10) rfl y.cells _ hck Tryz.underlying24 rfl (by kernel_rfl) ?_)
          | (refine wpList_store_row rfl 24 _ _ rfl wr.heap.size y.cells.toArray rfl rfl 24 _ (World.alloc_heap_new _ _) (by kernel_rfl) (by simp [Ins.cells]) (by simp [Ins.cells, Value.oneCell']) ?_; rw [World.setRow_alloc_new])
          | (refine wpList_load_row rfl 24 _ rfl wr.heap.size rfl 24 y.cells.toArray (0, 0) _ (World.alloc_heap_new _ _) Tryz.underlying24 rfl (by kernel_rfl) ?_)
          | (go_at_call 23; refine (e2' _).mono ?_; rintro e wb ⟨rfl, hb1⟩; have hB1 := bthen (hB.alloc hsz (.cells y.cells.toArray 24)) hb1 (by rw [World.size_alloc]; omega); have hrow1 := orow_below (hrow.alloc (.cells y.cells.toArray 24)) hb1)
          | (go_at_call 40; refine (bytes_any x e1 _).mono ?_; rintro e wc ⟨rfl, h4, _, hb2⟩; have hB2 := bthen hB1 hb2 hB1.size; have hrow2 := orow_below hrow1 hb2)
          | (at_builtin; show wpList _ _ _ ({ dst := _, op := Op.call { callee := Callee.builtin Builtin.append, args := _, argTypes := _ }, type := _, pos := _, after := _, guard := _ } :: _) _ _; refine wpList_append_own _ rfl _ _ 36 rfl w.heap.size 5 i0 (.int .u8 0) 1 1 Tryz.underlying36 hi hz0 hz1 hz2 rfl (by decide) _ _ _ rfl hrow2 ⟨wb.heap.size, 0, none⟩ 4 4 (by4 x) rfl rfl (four_news h4) (by4_one x) (by unfold maxLen; omega) (by omega) hB2.size ?_; intro v' w1 hown' hgrow _; have hB3 := hB2.grown hgrow hB2.size (fun q hq => (World.ownsRow.lt hrow2 q hq).1)))
        go_roundw
        case rel => exact ⟨k + 1, o ++ by4 x, by omega, by simp, Lib.hid (by rw [List.length_append, ho.out]; rfl), hown', hp2, hB3⟩
        case measure => simp [RowKit.intOf]; omega
      · rw [HX.out hE] at hp
        have hne : ((wE y) != 0) = true := by rw [bne_iff_ne]; exact hE
        clear HO HX hE
        generalize wV y = x at *
        generalize wE y = z at *
        go_wp2_with (first
          | (refine wpList_load_mid rfl 24 _ rfl b (off + k * 10) rfl y.cells _ hck Tryz.underlying24 rfl (by kernel_rfl) ?_)
          | (refine wpList_store_row rfl 24 _ _ rfl wr.heap.size y.cells.toArray rfl rfl 24 _ (World.alloc_heap_new _ _) (by kernel_rfl) (by simp [Ins.cells]) (by simp [Ins.cells, Value.oneCell']) ?_; rw [World.setRow_alloc_new])
          | (refine wpList_load_row rfl 24 _ rfl wr.heap.size rfl 24 y.cells.toArray (0, 0) _ (World.alloc_heap_new _ _) Tryz.underlying24 rfl (by kernel_rfl) ?_)
          | (go_at_call 23; refine (e2' _).mono ?_; rintro e wb ⟨rfl, hb1⟩; have hB1 := bthen (hB.alloc hsz (.cells y.cells.toArray 24)) hb1 (by rw [World.size_alloc]; omega)))
        go_ret3
        unfold WordsGot
        rw [← hp.out]
        exact ⟨_, rfl, World.ownsRow_nil _ _ _ _, hB1⟩
    · obtain rfl : k = n := by omega
      have hE := outW_end ys o
      rw [hl] at hE
      rw [hE] at hp
      have hll := ho.out
      clear hr hE
      go_wp2
      go_ret3
      unfold WordsGot
      rw [← hp.out]
      refine ⟨_, rfl, ?_, hB⟩
      show wr.ownsRow _ _ _ _ o.length o
      rw [hll]
      exact hrow
set_option maxRecDepth 100000 in
set_option maxHeartbeats 4000000 in
theorem rwords_any (A : Option Addr) (n ca : Nat) (ys : List Ins) (w : World) (hr : IRow w A n ys) (hn : n ≤ 500) :
    Calls Tryz.prog 25 #[.slice A n ca] w (WordsGot ys w) := by
  have hl := hr.1
  obtain ⟨i0, hi, hz0, hz1, hz2⟩ := info_parts byteInfo
  go_enter Tryz.func25, Tryz.ntmps25
  go_wp2
  go_loopw [5, 6] (fun l i wr => ∃ (k : Nat) (o : List Value), k ≤ n ∧ i = .int .i64 k ∧ Hid (o.length = 4 * k) ∧ wr.ownsRow w.heap.size 5 1 l (4 * k) o ∧ Hid (outW k o (ys.drop k) = outW 0 [] ys) ∧ Below w.heap.size w wr) (fun _ i _ => (n - RowKit.intOf i).toNat)
  case atStart => exact ⟨0, [], by omega, rfl, Lib.hid rfl, World.ownsRow_nil _ _ _ _, Lib.hid rfl, Below.refl _ _⟩
  case round =>
    obtain ⟨k, o, hk, rfl, ho, hrow, hp, hB⟩ := hrel
    have hsz := hB.size
    by_cases hlt : k < n
    · have hkl : k < ys.length := by omega
      obtain ⟨b, off, rfl, hb, hc⟩ := (hr.keep hB).2.2 (by omega)
      have hck := hc k hkl
      have hy := hr.2.1 _ (List.getElem_mem hkl)
      have HO := Lib.hid (outW_ok ys k o hkl)
      have HX := Lib.hid (outW_bad ys k o hkl)
      clear hc
      generalize ys[k] = y at *
      obtain ⟨e1, _, e2⟩ := w_is y hy
      have e2' : ∀ W, Calls Tryz.prog 12 #[.agg y.cells.toArray] W (Ret (.tuple #[.int .u32 (wV y), .int .i64 (wE y)]) W) := e2
      clear e2
      by_cases hE : wE y = 0
      · have hp2 : Hid (outW (k + 1) (o ++ by4 (wV y)) (ys.drop (k + 1)) = outW 0 [] ys) := Lib.hid (by rw [← HO.out hE, hp.out])
        rw [hE] at e2'
        clear HO HX hE hp
        generalize wV y = x at *
        go_wp2_with (first
          | (refine wpList_load_mid rfl 24 _ rfl b (off + k * 10) rfl y.cells _ hck Tryz.underlying24 rfl (by kernel_rfl) ?_)
          | (go_at_call 12; refine (e2' _).mono ?_; rintro e wb ⟨rfl, hb1⟩; have hB1 := bthen hB hb1 hsz; have hrow1 := orow_below hrow hb1)
          | (go_at_call 41; refine (rbytes_any x e1 _).mono ?_; rintro e wc ⟨rfl, h4, _, hb2⟩; have hB2 := bthen hB1 hb2 hB1.size; have hrow2 := orow_below hrow1 hb2)
          | (at_builtin; show wpList _ _ _ ({ dst := _, op := Op.call { callee := Callee.builtin Builtin.append, args := _, argTypes := _ }, type := _, pos := _, after := _, guard := _ } :: _) _ _; refine wpList_append_own _ rfl _ _ 36 rfl w.heap.size 5 i0 (.int .u8 0) 1 1 Tryz.underlying36 hi hz0 hz1 hz2 rfl (by decide) _ _ _ rfl hrow2 ⟨wb.heap.size, 0, none⟩ 4 4 (by4 x) rfl rfl (four_news h4) (by4_one x) (by unfold maxLen; omega) (by omega) hB2.size ?_; intro v' w1 hown' hgrow _; have hB3 := hB2.grown hgrow hB2.size (fun q hq => (World.ownsRow.lt hrow2 q hq).1)))
        go_roundw
        case rel => exact ⟨k + 1, o ++ by4 x, by omega, by simp, Lib.hid (by rw [List.length_append, ho.out]; rfl), hown', hp2, hB3⟩
        case measure => simp [RowKit.intOf]; omega
      · rw [HX.out hE] at hp
        have hne : ((wE y) != 0) = true := by rw [bne_iff_ne]; exact hE
        clear HO HX hE
        generalize wV y = x at *
        generalize wE y = z at *
        go_wp2_with (first
          | (refine wpList_load_mid rfl 24 _ rfl b (off + k * 10) rfl y.cells _ hck Tryz.underlying24 rfl (by kernel_rfl) ?_)
          | (go_at_call 12; refine (e2' _).mono ?_; rintro e wb ⟨rfl, hb1⟩; have hB1 := bthen hB hb1 hsz))
        go_ret3
        unfold WordsGot
        rw [← hp.out]
        exact ⟨_, rfl, World.ownsRow_nil _ _ _ _, hB1⟩
    · obtain rfl : k = n := by omega
      have hE := outW_end ys o
      rw [hl] at hE
      rw [hE] at hp
      have hll := ho.out
      clear hr hE
      go_wp2
      go_ret3
      unfold WordsGot
      rw [← hp.out]
      refine ⟨_, rfl, ?_, hB⟩
      show wr.ownsRow _ _ _ _ o.length o
      rw [hll]
      exact hrow
end Go.Proofs.YtopfaapcekiojaaGreat
