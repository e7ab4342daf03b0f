/- PROVED: EncWords returns true for every instruction and every slice of instructions; the arguments read behind the call as they read before. No condition. -/
import Derived.Test.YtopfaapcekiojaaGreatWordL
import Derived.Handy
import Derived.ProofKit
import Derived.OpenShut
import Derived.Lib.SmallJoins
namespace Go.Proofs.YtopfaapcekiojaaGreat.lawEncWords
open Go.ChangeShapes Go.WideShapes Go.ChangeAt Go.RowKit Go.Sort Go.Joins Go.Deep Sym
attribute [local go_sem] cell_gr frozen_gr
set_option linter.unusedVariables false

theorem live_run : allTrue (runF (decCx [] []) 300 22 [] [] 0) = true := by kernel_rfl
theorem live_any (w : World) : Calls Tryz.prog 22 #[] w (Ret (.bool true) w) := by
  have ok : (decCx [] []).Ok ((encEnv y0 (fun _ => 0) (fun _ => false) w).at w) := (dec_cxok (y := y0) (e := fun _ => 0) (t := fun _ => false) (w := w) (bd := []) (ax := []) (by intro i l h e; cases e) (by intro p hp; cases hp)).at
  exact runF_true (cx := decCx [] []) ok (dec_sums w) insM rfl rfl (args := []) (vals := []) rfl live_run
theorem outW_u8 : ∀ (ys : List Ins) (k : Nat) (o : List Value), (∃ zs : List Int, o = zs.map (Value.int .u8)) → ∃ zs : List Int, (outW k o ys).1 = zs.map (Value.int .u8)
  | [], _, _, h => h
  | y :: r, k, o, ⟨zs, h⟩ => by
    rw [outW]
    split
    · refine outW_u8 r (k + 1) _ ⟨zs ++ [byteI (wV y) 0, byteI (wV y) 1, byteI (wV y) 2, byteI (wV y) 3], ?_⟩
      rw [h, List.map_append]; rfl
    · exact ⟨[], rfl⟩
theorem conv_own {w : World} {b : Nat} {v : Value} {zs : List Int} {n : Nat} (h : w.ownsRow b 5 1 v n (zs.map (Value.int .u8))) : (convert 36 9 v).run Tryz.prog w = .ok (.string (strOfNums zs)) w := by
  have hlen : zs.length = n := by have := h.1; rw [List.length_map] at this; omega
  rcases h.2 with ⟨rfl, h0⟩ | ⟨g, cap, cur, rfl, _⟩
  · obtain rfl : zs = [] := List.length_eq_zero_iff.1 (by omega)
    exact run_convert_bytes_nil (P := Tryz.prog) w 36 5 Tryz.underlying36 Tryz.underlying5 0 0 9 Tryz.underlying9
  · refine run_convert_bytes_arg (P := Tryz.prog) w 36 5 Tryz.underlying36 Tryz.underlying5 g 0 n cap zs hlen (fun i hi => ?_) 9 Tryz.underlying9
    rw [Nat.zero_add, World.ownsRow.cellAt h i (by omega)]
    have hi' : i < zs.length := by omega
    simp [List.getD, List.getElem?_eq_getElem hi']
set_option maxRecDepth 100000 in
theorem bytes_same (b1 b2 n m : Nat) (v1 v2 : Value) (zs : List Int) (w : World) (h1 : w.ownsRow b1 5 1 v1 n (zs.map (Value.int .u8))) (h2 : w.ownsRow b2 5 1 v2 m (zs.map (Value.int .u8))) :
    Calls Tryz.prog 26 #[v1, v2] w (Ret (.bool true) w) := by
  have k1 := conv_own h1
  have k2 := conv_own h2
  clear h1 h2
  go_enter Tryz.func26, Tryz.ntmps26
  go_wp2
  go_ret
  exact ⟨by simp, Below.refl _ _⟩
theorem insrow_of {w : World} {A : Option Addr} {n : Nat} {rows : List (List Value)} (h : RowsOf w A n [isInt .i64, isBool, isBool, isInt .i64, isInt .i64, isInt .i64, isInt .i64, isInt .i64, isInt .i64, isInt .i64] rows) : ∃ l, IRow w A n l := by
  obtain ⟨h1, h2, h3⟩ := h
  have form : ∀ r ∈ rows, ∃ y : Ins, r = y.cells ∧ y.wf := fun r hr => by
    have q0 := h2 r hr
    obtain ⟨v0, r0, rfl, ⟨a0, rfl, w0⟩, q1⟩ := fits_cons q0
    obtain ⟨v1, r1, rfl, ⟨a1, rfl⟩, q2⟩ := fits_cons q1
    obtain ⟨v2, r2, rfl, ⟨a2, rfl⟩, q3⟩ := fits_cons q2
    obtain ⟨v3, r3, rfl, ⟨a3, rfl, w3⟩, q4⟩ := fits_cons q3
    obtain ⟨v4, r4, rfl, ⟨a4, rfl, w4⟩, q5⟩ := fits_cons q4
    obtain ⟨v5, r5, rfl, ⟨a5, rfl, w5⟩, q6⟩ := fits_cons q5
    obtain ⟨v6, r6, rfl, ⟨a6, rfl, w6⟩, q7⟩ := fits_cons q6
    obtain ⟨v7, r7, rfl, ⟨a7, rfl, w7⟩, q8⟩ := fits_cons q7
    obtain ⟨v8, r8, rfl, ⟨a8, rfl, w8⟩, q9⟩ := fits_cons q8
    obtain ⟨v9, r9, rfl, ⟨a9, rfl, w9⟩, q10⟩ := fits_cons q9
    obtain rfl := fits_nil q10
    exact ⟨⟨a0, a1, a2, a3, a4, a5, a6, a7, a8, a9⟩, rfl, i64_wf w0, i64_wf w3, i64_wf w4, i64_wf w5, i64_wf w6, i64_wf w7, i64_wf w8, i64_wf w9⟩
  have hex : ∀ r : List Value, ∃ y : Ins, r ∈ rows → r = y.cells ∧ y.wf := fun r => by
    by_cases hr : r ∈ rows
    · obtain ⟨y, hy⟩ := form r hr
      exact ⟨y, fun _ => hy⟩
    · exact ⟨y0, fun h => absurd h hr⟩
  refine ⟨rows.map fun r => Classical.choose (hex r), by simpa using h1, fun f hf => ?_, fun hn => ?_⟩
  · obtain ⟨r, hr, rfl⟩ := List.mem_map.1 hf
    exact (Classical.choose_spec (hex r) hr).2
  · obtain ⟨b, off, rfl, hb, hc⟩ := h3 hn
    refine ⟨b, off, rfl, hb, fun k hk j v hj => ?_⟩
    have hk' : k < rows.length := by simpa using hk
    rw [List.getElem_map] at hj
    have e := (Classical.choose_spec (hex rows[k]) (List.getElem_mem hk')).1
    rw [← e] at hj
    have hjl : j < 10 := by
      have := (List.getElem?_eq_some_iff.1 hj).1
      rw [(h2 rows[k] (List.getElem_mem hk')).length] at this
      exact this
    exact (hc k hk' j hjl).trans hj
set_option maxRecDepth 100000 in
set_option maxHeartbeats 4000000 in
theorem walk (y : Ins) (A : Option Addr) (n ca : Nat) (l : List Ins) (w : World) (hy : y.wf) (hl : IRow w A n l) (hm : n ≤ maxLen) :
    Calls Tryz.prog 6 #[y.val, .slice A n ca] w (Ret (.bool true) w) := by
  obtain ⟨zs, hzs⟩ := outW_u8 l 0 [] ⟨[], rfl⟩
  obtain ⟨_, e1, e2⟩ := w_is y hy
  have e1' : ∀ W, Calls Tryz.prog 23 #[.agg y.cells.toArray] W (Ret (.tuple #[.int .u32 (wV y), .int .i64 (wE y)]) W) := e1
  have e2' : ∀ W, Calls Tryz.prog 12 #[.agg y.cells.toArray] W (Ret (.tuple #[.int .u32 (wV y), .int .i64 (wE y)]) W) := e2
  clear e1 e2
  rw [Ins.val_cells]
  generalize wV y = x at *
  generalize wE y = z at *
  by_cases h5 : n ≤ 500
  · have h5' : decide ((500 : Int) < n) = false := by simp; omega
    have h5'' : (n : Int) ≤ 500 := by omega
    go_enter Tryz.func6, Tryz.ntmps6
    go_wp2_with (first
      | (refine wpList_load_row rfl 24 _ rfl w.heap.size rfl 24 y.cells.toArray (0, 0) _ hX Tryz.underlying24 rfl (by kernel_rfl) ?_)
      | (go_at_call 22; refine (live_any _).mono ?_; rintro e w1 ⟨rfl, hb⟩; have hB := bthen (bnew w (.cells y.cells.toArray 24)) hb (by rw [World.size_alloc]; omega); have hX := (hb.block w.heap.size (by rw [World.size_alloc]; omega)).trans (World.alloc_heap_new w (.cells y.cells.toArray 24)))
      | (go_at_call 23; refine (e1' _).mono ?_; rintro e w1 ⟨rfl, hb⟩; replace hB := bthen hB hb hB.size; replace hX := (hb.block _ (Array.getElem?_eq_some_iff.1 hX).1).trans hX)
      | (go_at_call 12; refine (e2' _).mono ?_; rintro e w1 ⟨rfl, hb⟩; replace hB := bthen hB hb hB.size; replace hX := (hb.block _ (Array.getElem?_eq_some_iff.1 hX).1).trans hX)
      | (go_at_call 24; refine (words_any A n ca l _ (hl.keep hB) h5).mono ?_; rintro e w1 ⟨v1, rfl, ho1, hb⟩; replace hB := bthen hB hb hB.size)
      | (go_at_call 25; refine (rwords_any A n ca l _ (hl.keep hB) h5).mono ?_; rintro e w1 ⟨v2, rfl, ho2, hb⟩; replace hB := bthen hB hb hB.size; replace ho1 := orow_below ho1 hb)
      | (go_at_call 26; refine (bytes_same _ _ _ _ _ _ zs _ (by rw [← hzs]; exact ho1) (by rw [← hzs]; exact ho2)).mono ?_; rintro e w1 ⟨rfl, hb⟩; replace hB := bthen hB hb hB.size))
    go_ret
    exact ⟨by simp, hB⟩
  · have h5' : decide ((500 : Int) < n) = true := by simp; omega
    go_enter Tryz.func6, Tryz.ntmps6
    go_wp2_with (first
      | (refine wpList_load_row rfl 24 _ rfl w.heap.size rfl 24 y.cells.toArray (0, 0) _ hX Tryz.underlying24 rfl (by kernel_rfl) ?_)
      | (go_at_call 22; refine (live_any _).mono ?_; rintro e w1 ⟨rfl, hb⟩; have hB := bthen (bnew w (.cells y.cells.toArray 24)) hb (by rw [World.size_alloc]; omega); have hX := (hb.block w.heap.size (by rw [World.size_alloc]; omega)).trans (World.alloc_heap_new w (.cells y.cells.toArray 24)))
      | (go_at_call 23; refine (e1' _).mono ?_; rintro e w1 ⟨rfl, hb⟩; replace hB := bthen hB hb hB.size; replace hX := (hb.block _ (Array.getElem?_eq_some_iff.1 hX).1).trans hX)
      | (go_at_call 12; refine (e2' _).mono ?_; rintro e w1 ⟨rfl, hb⟩; replace hB := bthen hB hb hB.size; replace hX := (hb.block _ (Array.getElem?_eq_some_iff.1 hX).1).trans hX))
    go_ret
    exact ⟨by simp, hB⟩
theorem own : ownKnob Tryz.prog.godebug = none := by kernel_rfl
theorem laidOut : laidOutB Tryz.prog = true := by kernel_rfl
set_option maxRecDepth 100000 in
theorem lifted (os : Os) (started : os.Started) (H : Type) (enc : TypeId × Value → H) :
    ReturnsInHanded {} Tryz.checked os 6 .any (Rows.encWordsSpec.pre6 enc Tryz.prog Tryz.f6 Rows.encWordsRow.domain false) (Rows.encWordsSpec.post enc Tryz.prog Tryz.f6 false true false false) := by
  refine returnsInHanded_of_change (C := Tryz.checked) own started (by kernel_rfl) Tryz.func6
    (ChangeSpec.witness6 (enc := enc) (C := Tryz.checked) false ⟨#[], #[.agg #[.int .i64 0, .bool false, .bool false, .int .i64 0, .int .i64 0, .int .i64 0, .int .i64 0, .int .i64 0, .int .i64 0, .int .i64 0], .slice none 0 0], []⟩ 8 (by kernel_rfl) (by kernel_rfl) (by kernel_rfl) (by kernel_rfl)) ?_
  intro W base args ds gs before hval0 hW hcnd _
  have hval : ∀ (j : Nat) t v, Tryz.f6.params[j]? = some t → args[j]? = some v → Value.okWide Tryz.prog W .any base t v := hval0
  have hW' := hW
  obtain ⟨p, q, hA0, hV, rfl, hfz, hnd⟩ := hW
  have hA : DataW.TrodAll enc Tryz.prog W 0 (fun _ => true) true Tryz.f6.params.toList args.toList ds p := hA0
  rw [Tryz.params6] at hA hval
  obtain ⟨v0, vs0, d0, ds0, p0, q0, hargs, rfl, rfl, h0, r0⟩ := trodAll_cons hA
  obtain ⟨v1, vs1, d1, ds1, p1, q1, rfl, rfl, rfl, h1, r1⟩ := trodAll_cons r0
  obtain ⟨rfl, rfl, rfl⟩ := trodAll_nil r1
  obtain rfl : args = #[v0, v1] := by cases args; simp_all
  obtain ⟨rfl, rfl⟩ := trodVars_none hV
  have k0 := h0
  have k1 := h1
  have lt0 : ∀ x ∈ p0, x.block < W.heap.size := by obtain ⟨m, hm⟩ := k0; exact DataW.trod_lt m _ _ _ hm
  have lt1 : ∀ x ∈ p1, x.block < W.heap.size := by obtain ⟨m, hm⟩ := k1; exact DataW.trod_lt m _ _ _ hm
  obtain ⟨y0, rfl, b0⟩ := open_inst (hval 0 24 v0 rfl rfl) h0
  obtain ⟨A1, n1, c1, rfl⟩ := okWide_slice Tryz.underlying40 (hval 1 40 v1 rfl rfl)
  obtain ⟨rows1, hr1, hm1⟩ := open_rows Tryz.underlying40 flatInst (by kernel_rfl) (by decide) h1
  obtain ⟨l1, hl1⟩ := insrow_of hr1
  clear hA0 hval0
  refine (walk y0 A1 n1 c1 l1 W b0 hl1 hm1).mono fun e W' ⟨he, bel⟩ => ?_
  subst he
  exact ⟨_, rfl, _, _, _, [], _, [], hW', trodAll_mk1 (shut_bool Tryz.underlying4 _), (trodAll_cons_mk (Below.trod laidOut (by kernel_rfl) (of_decide_eq_true (by kernel_rfl)) k0 bel lt0) (trodAll_cons_mk (Below.trod laidOut (by kernel_rfl) (of_decide_eq_true (by kernel_rfl)) k1 bel lt1) trodAll_mk0)), rfl, bel.frame _, fun h => by cases h⟩

theorem proved : Rows.EncWordsSaid :=
  OpenClaim.holds_of_wide 6 Tryz.f6 rfl rfl rfl rfl rfl rfl rfl ⟨rfl, rfl, rfl, rfl, rfl⟩ rfl rfl rfl rfl rfl (by kernel_rfl) Tryz.func6 (by kernel_rfl)
    (of_decide_eq_true (by kernel_rfl)) (by unfold Func.isWrapper; first | (rw [if_pos (by decide +kernel)]; kernel_rfl) | (rw [if_neg (by decide +kernel)]; exact ⟨rfl, rfl⟩))
    (fun os started H enc _ => lifted os started H enc)

#print axioms proved
end Go.Proofs.YtopfaapcekiojaaGreat.lawEncWords
