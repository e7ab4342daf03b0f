/- dec.All: the iterator over the words of bytes and their instructions. -/
import Derived.Test.YtopfaapcekiojaaGreatByteM
import Derived.Laws.OwnMore
import Derived.Laws.Tables
import Derived.OwnWalk
import Derived.Handy
import Derived.Deep.WholeRow
import Derived.RegionTactic
import Derived.BigRegion
namespace Go.Proofs.YtopfaapcekiojaaGreat
open Go.RowKit Go.Sort Go.Shelf Sym Two
attribute [local go_sem] Oper.semAt_some cell_gr frozen_gr wide_fn asked_wide
set_option linter.unusedVariables false

theorem grown_of' {W W' : World} (h : Below W.heap.size W W') : W.grownBy W' none := ⟨h.os, h.tape, h.output, h.size, fun k hk _ => h.block k hk⟩
def cellsI' (y : Ins) : List Value := [.int .i64 y.op, .bool y.x, .bool y.s, .int .i64 y.rd, .int .i64 y.rn, .int .i64 y.rm, .int .i64 y.ra, .int .i64 y.a, .int .i64 y.b, .int .i64 y.c]
theorem val_cells' (y : Ins) : y.val = .agg (cellsI' y).toArray := rfl
theorem BRowB.kept {n₀ n₁ : Nat} {w w' : World} {A : Option Addr} {n : Nat} {l : List Int} (h : BRowB n₀ w A n l) (hA : ∀ a, A = some a → n₁ ≤ a.block) (hk : ∀ k, n₁ ≤ k → k < n₀ → w'.heap[k]? = w.heap[k]?) : BRowB n₀ w' A n l := by
  refine ⟨h.1, fun hn => ?_⟩
  obtain ⟨b, off, e, hlt, hc⟩ := h.2 hn
  have hb : n₁ ≤ b := hA _ e
  refine ⟨b, off, e, hlt, fun k hk' => ?_⟩
  rw [← hc k hk']
  simp only [World.cell?, hk b hb hlt]
section
variable {F : Fence} {n : Nat} {P : Program} {w : World} {ops : Array Oper} {rest : List Oper} {o : Oper} {a : Act} {Q : Exit → Act → World → Prop}
theorem wpListIn_load_row (hgd : o.guard = none) (ty : TypeId) (x : Operand) (ho : o.op = .load ty x)
    (g : Nat) (hx : a.eval x = .pointer (some ⟨g, 0, none⟩)) (t : TypeId) (cs : Array Value) (fr : Nat × Nat) (d : TypeDesc) (hg : w.heap[g]? = some (.cells cs t fr))
    (hu : P.underlying ty = some d) (hd : (match d with | .struct _ | .array _ _ => true | _ => false) = true) (hi : (P.info? ty).map (·.size) = some cs.size)
    (h : wpListIn F n P ops Q rest (a.put o.dst (.agg cs)) w) : wpListIn F n P ops Q (o :: rest) a w := by
  refine wpListIn_plain hgd fun K hK => ?_
  unfold Oper.wpIn
  refine ⟨by simp [Oper.about, ho], ?_⟩
  rw [Oper.semAt_plain F _ _ (by rw [ho]; intro c hc'; cases hc')]
  simp only [execOp, ho, hx, Instr.loadAt, Instr.sureAddr, Sem.run_bind, Sem.run_pure, Result.andThen_ok, run_loadVar_row w g t ty cs fr d hg hu hd hi]
  exact hK _ _ h
theorem wpListIn_store_row (hgd : o.guard = none) (ty : TypeId) (x y : Operand) (ho : o.op = .store ty x y)
    (g : Nat) (cells : Array Value) (hx : a.eval x = .pointer (some ⟨g, 0, none⟩)) (hy : a.eval y = .agg cells)
    (t : TypeId) (old : Array Value) (hg : w.heap[g]? = some (.cells old t (0, 0))) (hi : (P.info? ty).map (·.size) = some cells.size)
    (hold : old.size = cells.size) (h1 : cells.all (·.oneCell') = true)
    (h : wpListIn F n P ops Q rest (a.put o.dst undef) (w.setRow g cells)) : wpListIn F n P ops Q (o :: rest) a w := by
  refine wpListIn_plain hgd fun K hK => ?_
  unfold Oper.wpIn
  refine ⟨by simp [Oper.about, ho], ?_⟩
  rw [Oper.semAt_plain F _ _ (by rw [ho]; intro c hc'; cases hc')]
  simp only [execOp, ho, hx, hy, Instr.storeAt, Instr.sureAddr, Sem.run_bind, Sem.run_pure, Result.andThen_ok, run_storeVar_row w g t ty old cells hg hi hold h1]
  exact hK _ _ h
end
set_option maxRecDepth 100000 in
set_option maxHeartbeats 4000000 in
theorem dall_stops (n : Nat) (hn : 1 ≤ n) (Bw n₀ : Nat) (A : Option Addr) (nb cb : Nat) (l : List Int) (hl : Bys l) (w : World) (hb : Bw < n₀) (hb2 : n₀ ≤ w.heap.size) (hc : w.cell? ⟨Bw, 0, none⟩ = some (.slice A nb cb)) (hrow : BRowB n₀ w A nb l) (hnb : nb ≤ cb ∧ nb ≤ 2000)
    (Kp : World → World → Prop) (n₁ : Nat) (hKp : ∀ W W', Kp W W' → W.heap.size ≤ W'.heap.size ∧ ∀ k, n₁ ≤ k → k < n₀ → W'.heap[k]? = W.heap[k]?) (hb1 : n₁ ≤ Bw) (hA : ∀ a, A = some a → n₁ ≤ a.block) :
    SeqStopsK Fence.wide n Tryz.prog 37 #[.pointer (some ⟨Bw, 0, none⟩)] bxEnc Kp (fun xs => xs = bxL l hl (nb / 4)) (fun xs => xs <+: bxL l hl (nb / 4)) 500 w := fun lo J Jx W hW hJ _ hY h0 => by
  have hc' := (hW.cell (p := ⟨Bw, 0, none⟩) (by simp; omega)).trans hc
  have hsz := hW.size
  have hrow1 := hrow.below (hW.mono hb2)
  clear hrow hc
  refine callsIn_of_wp Tryz.func37 rfl trivial ?_ rfl
  simp only [Tryz.ntmps37, List.size_toArray, List.length_cons, List.length_nil, Nat.reduceAdd, Nat.reduceSub, Array.replicate_succ, Array.replicate_zero, List.push_toArray, List.append_toArray, List.nil_append, List.cons_append]
  gi_wp2
  gi_loopw [3] (fun i wr => ∃ k q : Nat, q ≤ nb ∧ Hid (q = 4 * k) ∧ i = .int .i64 q ∧ J (bxL l hl k) wr ∧ wr.cell? ⟨Bw, 0, none⟩ = some (.slice A nb cb) ∧ BRowB n₀ wr A nb l ∧ W.heap.size ≤ wr.heap.size) (fun i _ => (nb - (RowKit.intOf i).toNat))
  case atStart => exact ⟨0, 0, by omega, Lib.hid rfl, rfl, h0, hc', hrow1, Nat.le_refl _⟩
  case round =>
    obtain ⟨k, q, hq, hqk, rfl, hJs, hcs, hrs, hsr⟩ := hrel
    by_cases hlt : q + 4 ≤ nb
    · obtain ⟨b, off, rfl, h4⟩ := hrs.four hl (k := k) (by have := hqk.out; omega) (Nat.le_trans hb2 (Nat.le_trans hsz hsr))
      have hwd := word_any (some ⟨b, off + 4 * k, none⟩) 4 (cb - q) _ wr h4 (by omega)
      rw [word_four] at hwd
      have hdc := (d_is (wdOf l k) (wdOf_u32 hl k)).2.2.2.1
      have hlen : (bxL l hl k).length < 500 := by rw [bxL_len]; have := hqk.out; omega
      have hnext := bxL_succ l hl k
      have henc : bxEnc (bxAt l hl k) = #[.int .u32 (wdOf l k), .agg (cellsI' (dY (wdOf l k))).toArray] := rfl
      rw [val_cells'] at hdc
      replace hnext := Lib.hid hnext
      have e4 : off + 4 * k = off + q := by rw [hqk.out]
      rw [e4] at hwd
      have hwI : wordE [l.getD (4 * k) 0, l.getD (4 * k + 1) 0, l.getD (4 * k + 2) 0, l.getD (4 * k + 3) 0] = 0 := rfl
      rw [hwI] at hwd
      generalize hyv : dY (wdOf l k) = y at *
      clear hyv
      gi_wp2_with (first
        | (gi_at_call 38; refine (callsIn_wide.2 hwd).mono ?_; rintro e w1 ⟨rfl, hb1⟩)
        | (gi_at_call 8; refine (callsIn_wide.2 (hdc _)).mono ?_; rintro e w2 ⟨rfl, hb2'⟩)
        | (show wpListIn _ _ _ _ _ ({ dst := _, op := Op.store _ _ _, type := _, pos := _, after := _, guard := _ } :: _) _ _; refine wpListIn_store_row rfl 24 _ _ rfl w2.heap.size (cellsI' y).toArray rfl rfl 24 _ (World.alloc_heap_new _ _) (by kernel_rfl) (by simp [cellsI']) (by simp [cellsI', Value.oneCell']) ?_; rw [World.setRow_alloc_new])
        | (show wpListIn _ _ _ _ _ ({ dst := _, op := Op.load 24 _, type := _, pos := _, after := _, guard := _ } :: _) _ _; refine wpListIn_load_row rfl 24 _ rfl w2.heap.size rfl 24 (cellsI' y).toArray (0, 0) _ (World.alloc_heap_new _ _) Tryz.underlying24 rfl (by kernel_rfl) ?_))
      have hbW : Below wr.heap.size wr (w2.alloc (.cells (cellsI' y).toArray 24)) := (bthen hb1 hb2' hb1.size).alloc (Nat.le_trans hb1.size hb2'.size) _
      have hJV := hJ _ _ _ _ hJs (grown_of' hbW) (fun r e => by cases e)
      have hcV := (hbW.cell (p := ⟨Bw, 0, none⟩) (by dsimp only; omega)).trans hcs
      have hrV := hrs.below (hbW.mono (by omega))
      have hsV := Nat.le_trans hsr hbW.size
      clear hb1 hb2'
      generalize (w2.alloc (.cells (cellsI' y).toArray 24)) = wV at *
      obtain ⟨fn, tmps, assign, body, hy, hR⟩ := hY _ (bxAt l hl k) wV hJV hlen
      rw [henc] at hy
      rw [hy]
      gi_wp2
      refine hR.mono ?_
      rintro e W3 (⟨rfl, hJ3, hk3⟩ | ⟨rfl, hJx3⟩)
      · obtain ⟨hk4, hk5⟩ := hKp _ _ hk3
        have hc3 : W3.cell? ⟨Bw, 0, none⟩ = some (.slice (some ⟨b, off, none⟩) nb cb) := by
          rw [← hcV]
          simp only [World.cell?, hk5 Bw hb1 hb]
        have hr3 := hrV.kept hA hk5
        have hs3 := Nat.le_trans hsV hk4
        rw [← hnext.out] at hJ3
        gi_wp2
        go_roundw
        case rel => exact ⟨k + 1, q + 4, by omega, Lib.hid (by have := hqk.out; omega), by simp, hJ3, hc3, hr3, hs3⟩
        case measure => simp [RowKit.intOf]; omega
      · have hpre : bxL l hl k ++ [bxAt l hl k] <+: bxL l hl (nb / 4) := by
          rw [← hnext.out]
          have := bxL_pre l hl (k + 1) (nb / 4 - (k + 1))
          rw [show k + 1 + (nb / 4 - (k + 1)) = nb / 4 by have := hqk.out; omega] at this
          exact this
        replace hpre := Lib.hid hpre
        gi_wp2
        refine bodyPost_ret (results_none rfl _ _ _) rfl ?_
        exact ⟨⟨_, rfl⟩, .inr ⟨_, hpre.out, hJx3⟩⟩
    · have hk : k = nb / 4 := by have := hqk.out; omega
      subst hk
      gi_wp2
      go_end0
      exact ⟨⟨_, rfl⟩, .inl ⟨_, rfl, hJs⟩⟩
end Go.Proofs.YtopfaapcekiojaaGreat

/- dec.All of bytes: a copy of them, and the iterator. -/
namespace Go.Proofs.YtopfaapcekiojaaGreat
open Go.RowKit Go.Sort Go.Shelf Sym Two
attribute [local go_sem] cell_gr frozen_gr
set_option linter.unusedVariables false

theorem u8Info : (Tryz.prog.info? 5).map (fun i => (i.zero, i.size, i.bytes)) = some (some (.int .u8 0), 1, 1) := by kernel_rfl
/-- a copy: in a block of its own, or none -/
def Cloned (base n : Nat) (l : List Int) (v : Value) (w : World) : Prop := ∃ A cb, v = .slice A n cb ∧ n ≤ cb ∧ BRowB w.heap.size w A n l ∧ ∀ a, A = some a → base ≤ a.block
theorem cloned_own {w : World} {base n : Nat} {l : List Int} {v : Value} (h : w.ownsRow base 5 1 v n (l.map (.int .u8))) : Cloned base n l v w := by
  have hlen : l.length = n := by have := h.1; rw [List.length_map] at this; omega
  rcases h.2 with ⟨rfl, h0⟩ | ⟨g, cap, cur, rfl, hbg, hg, hcap, _⟩
  · exact ⟨none, 0, by rw [h0], by omega, ⟨hlen, fun h => by omega⟩, (by intro a e; cases e)⟩
  · refine ⟨_, cap, rfl, hcap, ⟨hlen, fun hn => ⟨g, 0, rfl, (Array.getElem?_eq_some_iff.1 hg).1, fun k hk => ?_⟩⟩, (by intro a e; cases e; exact hbg)⟩
    rw [Nat.zero_add, World.ownsRow.cellAt h k (by omega)]
    simp [List.getElem?_eq_getElem hk]
theorem byte_news {w : World} {a : Addr} {n : Nat} {l : List Int} (h : BRow w (some a) n l) : ∀ j u, (l.map (Value.int .u8))[j]? = some u → w.cell? (a.add j) = some u := by
  intro j u hj
  rw [List.getElem?_map] at hj
  cases hl : l[j]? with
  | none => rw [hl] at hj; cases hj
  | some c =>
    rw [hl] at hj
    have hjl := (List.getElem?_eq_some_iff.1 hl).1
    obtain ⟨b, off, e, _, hc⟩ := h.2.2 (by have := h.1; omega)
    cases e
    rw [add_lit', hc j hjl]
    rw [List.getElem?_eq_getElem hjl] at hl
    cases hl
    exact hj
theorem int_ones (k : IntKind) (l : List Int) : ∀ u ∈ l.map (Value.int k), u.oneCell' = true := fun u hu => by
  obtain ⟨c, _, rfl⟩ := List.mem_map.1 hu
  rfl
set_option maxRecDepth 100000 in
set_option maxHeartbeats 4000000 in
theorem clone_any (A : Option Addr) (n ca : Nat) (l : List Int) (w : World) (hl : BRow w A n l) (hn : n ≤ 2000) :
    Calls Tryz.prog 36 #[.slice A n ca] w fun e w' => ∃ v, e = .returned v ∧ Cloned w.heap.size n l v w' ∧ Below w.heap.size w w' := by
  cases A with
  | none =>
    have h0 : n = 0 := by
      rcases Nat.eq_zero_or_pos n with h | h
      · exact h
      · obtain ⟨b, off, e, _⟩ := hl.2.2 h; cases e
    subst h0
    have hq : ∀ W, Sem.run Tryz.prog (binOp BinOp.eql 36 (.slice none 0 ca) (.slice none 0 0)) W = .ok (.bool true) W := fun _ => by kernel_rfl
    have hr : Cloned w.heap.size 0 l (.slice none 0 0) w := ⟨none, 0, rfl, by omega, ⟨hl.1, fun h => by omega⟩, (by intro a e; cases e)⟩
    go_enter Tryz.func36, Tryz.ntmps36
    go_wp2
    go_ret
    exact ⟨_, rfl, hr, Below.refl _ _⟩
  | some a =>
    have hq : ∀ W, Sem.run Tryz.prog (binOp BinOp.eql 36 (.slice (some a) n ca) (.slice none 0 0)) W = .ok (.bool false) W := fun _ => by kernel_rfl
    obtain ⟨i0, hi, hz0, hz1, hz2⟩ := info_parts u8Info
    have hmx : 2000 ≤ maxLen := by unfold maxLen; omega
    have hlen : (l.map (Value.int .u8)).length = n * 1 := by rw [List.length_map, hl.1]; omega
    have hown : (w.alloc (.cells #[] 5)).ownsRow w.heap.size 5 1 (.slice (some ⟨w.heap.size, 0, none⟩) 0 0) 0 [] := World.ownsRow_made w #[] 0 (Nat.le_refl _) (by omega) rfl
    have hnews := byte_news (hl.keep ((Below.refl w.heap.size w).alloc (Nat.le_refl _) (.cells #[] 5)))
    go_enter Tryz.func36, Tryz.ntmps36
    go_wp2_with (at_builtin; show wpList _ _ _ ({ dst := _, op := Op.call { callee := Callee.builtin Builtin.append, args := _, argTypes := _ }, type := _, pos := _, after := _, guard := _ } :: _) _ _; refine wpList_append_own _ rfl _ _ 36 rfl w.heap.size 5 i0 (.int .u8 0) 1 1 Tryz.underlying36 hi hz0 hz1 hz2 rfl (by decide) _ _ _ rfl hown a n ca (l.map (Value.int .u8)) rfl hlen hnews (int_ones _ _) (by omega) (by omega) (by rw [World.size_alloc]; omega) ?_; intro v' w1 hown' hgrow _; have hB3 := ((Below.refl w.heap.size w).alloc (Nat.le_refl _) (.cells #[] 5)).grown hgrow (by rw [World.size_alloc]; omega) (fun q hq => (World.ownsRow.lt hown q hq).1))
    go_ret
    rw [List.nil_append, Nat.zero_add] at hown'
    exact ⟨_, rfl, cloned_own hown', hB3⟩
theorem BRowB.put {n₀ n g o : Nat} {w : World} {A : Option Addr} {l : List Int} {u : Value} (h : BRowB n₀ w A n l) (hne : ∀ a, A = some a → g + 1 ≤ a.block) : BRowB n₀ (w.setCell ⟨g, o, none⟩ u) A n l := by
  refine ⟨h.1, fun hn => ?_⟩
  obtain ⟨b, off, e, hlt, hc⟩ := h.2 hn
  refine ⟨b, off, e, hlt, fun k hk => ?_⟩
  have hb : g + 1 ≤ b := hne _ e
  have := heap_setCell_other w ⟨g, o, none⟩ b u (fun e => by simp at e; omega)
  rw [← hc k hk]
  simp only [World.cell?, this]
/-- the iterator over a copy -/
def AllGot (n : Nat) (l : List Int) (w : World) (e : Ending) (w' : World) : Prop := ∃ Bw A cb, e = .returned (.func (.func 37) #[] #[.pointer (some ⟨Bw, 0, none⟩)]) ∧ Below w.heap.size w w' ∧ Bw < w'.heap.size ∧ w'.cell? ⟨Bw, 0, none⟩ = some (.slice A n cb) ∧ n ≤ cb ∧ BRowB w'.heap.size w' A n l ∧ w.heap.size ≤ Bw ∧ ∀ a, A = some a → w.heap.size ≤ a.block
set_option maxRecDepth 100000 in
set_option maxHeartbeats 4000000 in
theorem dall_any (A : Option Addr) (n ca : Nat) (l : List Int) (w : World) (hl : BRow w A n l) (hn : n ≤ 2000) :
    Calls Tryz.prog 17 #[.slice A n ca] w (AllGot n l w) := by
  have hcl := clone_any A n ca l (w.alloc (.cells #[.slice A n ca] 36)) (hl.keep ((Below.refl w.heap.size w).alloc (Nat.le_refl _) _)) hn
  go_enter Tryz.func17, Tryz.ntmps17
  go_wp2_with (go_at_call 36; refine hcl.mono ?_; rintro e w1 ⟨v1, rfl, ⟨A1, cb1, rfl, hcb, hrow1, hne1⟩, hb1⟩; have hx0 := (hb1.cell (p := ⟨w.heap.size, 0, none⟩) (by simp)).trans (show (w.alloc (.cells #[.slice A n ca] 36)).cell? ⟨w.heap.size, 0, none⟩ = some (.slice A n ca) by simp [go_sem]); have hf0 := ((bcell hb1).2 w.heap.size 0 (by simp)).trans (show (w.alloc (.cells #[.slice A n ca] 36)).frozen? ⟨w.heap.size, 0, none⟩ = false by simp [go_sem]); have hz1 := hb1.size; rw [World.size_alloc] at hz1)
  rw [World.size_alloc] at hne1
  go_ret
  have hsz : (w1.setCell ⟨w.heap.size, 0, none⟩ (.slice A1 n cb1)).heap.size = w1.heap.size := by simp
  refine ⟨w.heap.size, A1, cb1, rfl, ?_, by omega, ?_, hcb, by rw [hsz]; exact hrow1.put hne1, Nat.le_refl _, fun a e => by have := hne1 a e; omega⟩
  · exact (bthen (bnew w _) hb1 (by rw [World.size_alloc]; omega)).trans ⟨rfl, rfl, rfl, by simp, fun k hk => heap_setCell_other w1 ⟨w.heap.size, 0, none⟩ k _ (by show k ≠ w.heap.size; omega)⟩
  · simp [go_sem, hx0]
end Go.Proofs.YtopfaapcekiojaaGreat
