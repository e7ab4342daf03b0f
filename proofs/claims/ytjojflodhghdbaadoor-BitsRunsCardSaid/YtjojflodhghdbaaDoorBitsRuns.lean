/- PROVED: BitsRuns returns true for every number, every width and every slice of bytes; each argument reads behind the call as it read before. The table of math/bits is laid and tied. -/
import Derived.Test.YtjojflodhghdbaaDoorRunE
import Derived.Test.YtjojflodhghdbaaDoorLaw01L
import Derived.Test.YtjojflodhghdbaaDoorLaidT
import Derived.Test.YtjojflodhghdbaaDoorCards
import Derived.Test.YtjojflodhghdbaaDoorTie
import Derived.SevenTiedAt
import Derived.Test.YtjojflodhghdbaaDoorOpen
import Derived.ProofKit
import Derived.Handy
import Derived.OpenShut
import Derived.Lib.SmallJoins
namespace Go.Proofs.YtjojflodhghdbaaDoor.lawBitsRuns
open Go.ChangeShapes Go.WideShapes Go.ChangeAt Go.RowKit Go.Sort Go.Joins Go.Shelf
attribute [local go_sem] cell_gr frozen_gr
set_option linter.unusedVariables false

theorem Four.below {W W' : World} {g : Nat} {f : Nat → Int} (h : Four W g f) (hg : g < W.heap.size) (hb : Below W.heap.size W W') : Four W' g f := fun j hj => ⟨((bcell hb).1 _ _ hg).trans (h j hj).1, ((bcell hb).2 _ _ hg).trans (h j hj).2⟩
set_option maxRecDepth 100000 in
set_option maxHeartbeats 4000000 in
theorem walk (v x : Int) (A : Option Addr) (n ca : Nat) (l : List Int) (w : World) (hv : U64 v) (hx : I64 x) (hl : BRow w A n l) (hn : n ≤ maxLen) (hg : 0 < w.heap.size) (hT : Tab w) : Calls Tryd.prog 4 #[.int .u64 v, .int .i64 x, .slice A n ca] w (Ret (.bool true) w) := by
  have hB : Below w.heap.size w w := Below.refl _ _
  have hn' : n ≤ 9223372036854775807 := Nat.le_trans hn (by unfold maxLen; decide)
  have hr := Lib.hid (fun W hg hT => runs_list v x hv hx W hg hT)
  have hr2 := Lib.hid (rruns_any v x hv hx)
  have hll := refR_len (fun i => (runB v x).testBit i) 64
  rw [← refR_same v x hv] at hr2
  obtain ⟨L, hL⟩ : ∃ L, L = refR (fun i => (runB v x).testBit i) 64 := ⟨_, rfl⟩
  rw [← hL] at hr hr2 hll
  clear hL
  obtain ⟨y, hy⟩ : ∃ y, y = IntKind.u32.wrap v := ⟨_, rfl⟩
  have hyU : U32 y := by rw [hy, IntKind.wrap_u32]; exact ⟨by omega, by omega⟩
  have hc := Lib.hid (bytes_any y hyU)
  have hc2 := Lib.hid (rbytes_any y hyU)
  rw [hy] at hc hc2
  go_enter Tryd.func4, Tryd.ntmps4
  go_wp2_with (first
    | (go_at_call 5; refine (live_any _).mono ?_; rintro e w1 ⟨rfl, hb1⟩; replace hB := bthen hB hb1 hB.size)
    | (go_at_call 11; refine (word_any _ _ _ l _ (hl.keep hB) hn').mono ?_; rintro e w2 ⟨rfl, hb2⟩; replace hB := bthen hB hb2 hB.size)
    | (go_at_call 12; refine (rword_any _ _ _ l _ (hl.keep hB) hn').mono ?_; rintro e w3 ⟨rfl, hb3⟩; replace hB := bthen hB hb3 hB.size)
    | (go_at_call 7; refine (hr.out _ (by have := hB.size; omega) (hT.below hB hg)).mono ?_; rintro e w4 ⟨v4, rfl, hrow1, hb4⟩; replace hB := bthen hB hb4 hB.size)
    | (go_at_call 14; refine (hr2.out _).mono ?_; rintro e w5 ⟨v5, rfl, hrow2, hb5⟩; replace hrow1 := hrow1.below hb5; replace hB := bthen hB hb5 hB.size)
    | (go_at_call 13; refine (runs_equal _ _ _ _ _ _ hrow1 hrow2 hll).mono ?_; rintro e w6 ⟨rfl, hb6⟩; replace hB := bthen hB hb6 hB.size)
    | (go_at_call 16; refine (hc.out _).mono ?_; rintro e w7 ⟨rfl, hF1, hz1, hb7⟩; replace hB := bthen hB hb7 hB.size)
    | (go_at_call 17; refine (hc2.out _).mono ?_; rintro e w8 ⟨rfl, hF2, hz2, hb8⟩; replace hF1 := Four.below hF1 hz1 hb8; replace hB := bthen hB hb8 hB.size)
    | (go_at_call 15; refine (bytes_equal _ _ _ _ hF1 hF2).mono ?_; rintro e w9 ⟨rfl, hb9⟩; replace hB := bthen hB hb9 hB.size))
  go_returns
  exact ⟨by simp, hB⟩
theorem own : ownKnob Tryd.prog.godebug = none := by kernel_rfl
theorem laidOut : laidOutB Tryd.prog = true := by kernel_rfl
set_option maxRecDepth 100000 in
theorem lifted (os : Os) (started : os.Started) (H : Type) (enc : TypeId × Value → H) :
    ReturnsInHanded {} Tryd.checked os 4 .any (fun w args => (Rows.bitsRunsSpec.pre enc Tryd.prog Tryd.f4 [] false w args ∧ laidMetH Tryd.prog laidT w) ∧ sizedMet enc Tryd.prog Tryd.f4 (OpenSpec.ofChange Rows.bitsRunsSpec) false w args) (Rows.bitsRunsSpec.post enc Tryd.prog Tryd.f4 false true false false) := by
  refine returnsInHanded_of_change_and (C := Tryd.checked) (X := fun w _ => laidMetH Tryd.prog laidT w) (fun _ _ _ hh h => h.of_heap hh) own started (by kernel_rfl) Tryd.func4
    (ChangeSpec.witness_shaped (enc := enc) (C := Tryd.checked) (os := os) (X := fun w _ => laidMetH Tryd.prog laidT w) false (World.doorLaid Tryd.prog 400 os) #[.int .u64 0, .int .i64 0, .slice none 0 0] 8 rfl (World.shaped_of_RefB (by kernel_rfl) (by kernel_rfl)) (by kernel_rfl) (by kernel_rfl) (by kernel_rfl) (laid_met os _)) ?_
  intro W base args ds gs before hval0 hW _ _ hL _
  obtain ⟨hg0, hT0⟩ := tab_of_laid hL
  have hval : ∀ (j : Nat) t v, Tryd.f4.params[j]? = some t → args[j]? = some v → Value.okWide Tryd.prog W .any base t v := hval0
  have hW' := hW
  obtain ⟨p, q, hA0, hV, rfl, hfz, hnd⟩ := hW
  have hA : DataW.TrodAll enc Tryd.prog W 0 (fun _ => true) true Tryd.f4.params.toList args.toList ds p := hA0
  rw [Tryd.params4] at hA hval
  obtain ⟨v0, vs0, d0, ds0, p0, q0, hargs, rfl, rfl, h0, r0⟩ := trodAll_cons hA
  obtain ⟨v1, vs1, d1, ds1, p1, q1, rfl, rfl, rfl, h1, r1⟩ := trodAll_cons r0
  obtain ⟨v2, vs2, d2, ds2, p2, q2, rfl, rfl, rfl, h2, r2⟩ := trodAll_cons r1
  obtain ⟨rfl, rfl, rfl⟩ := trodAll_nil r2
  obtain rfl : args = #[v0, v1, v2] := by cases args; simp_all
  obtain ⟨rfl, rfl⟩ := trodVars_none hV
  have k0 := h0
  have k1 := h1
  have k2 := h2
  have lt0 : ∀ x ∈ p0, x.block < W.heap.size := by obtain ⟨m, hm⟩ := k0; exact DataW.trod_lt m _ _ _ hm
  have lt1 : ∀ x ∈ p1, x.block < W.heap.size := by obtain ⟨m, hm⟩ := k1; exact DataW.trod_lt m _ _ _ hm
  have lt2 : ∀ x ∈ p2, x.block < W.heap.size := by obtain ⟨m, hm⟩ := k2; exact DataW.trod_lt m _ _ _ hm
  obtain ⟨a0, rfl, _, _, w0⟩ := open_int Tryd.underlying22 (hval 0 22 v0 rfl rfl) h0
  obtain ⟨a1, rfl, _, _, w1⟩ := open_int Tryd.underlying3 (hval 1 3 v1 rfl rfl) h1
  obtain ⟨A2, n2, c2, rfl⟩ := okWide_slice Tryd.underlying35 (hval 2 35 v2 rfl rfl)
  obtain ⟨rows2, hr2, hm2⟩ := open_rows Tryd.underlying35 (flat_int Tryd.underlying5) (by kernel_rfl) (by decide) h2
  obtain ⟨l2, hl2⟩ := brow_of hr2
  clear hA0 hval0
  refine (walk a0 a1 A2 n2 c2 l2 W (u64_wf w0) (i64_wf w1) hl2 hm2 hg0 hT0).mono fun e W' ⟨he, bel⟩ => ?_
  subst he
  exact ⟨_, rfl, _, _, _, [], _, [], hW', trodAll_mk1 (shut_bool Tryd.underlying4 _), (trodAll_cons_mk (Below.trod laidOut (by kernel_rfl) (of_decide_eq_true (by kernel_rfl)) k0 bel lt0) (trodAll_cons_mk (Below.trod laidOut (by kernel_rfl) (of_decide_eq_true (by kernel_rfl)) k1 bel lt1) (trodAll_cons_mk (Below.trod laidOut (by kernel_rfl) (of_decide_eq_true (by kernel_rfl)) k2 bel lt2) trodAll_mk0))), rfl, bel.frame _, fun h => by cases h⟩

theorem proved : Rows.BitsRunsSaid :=
  OpenClaim.holds_of_wide 4 Tryd.f4 rfl rfl rfl rfl rfl rfl rfl ⟨rfl, rfl, rfl, rfl, rfl⟩ rfl rfl rfl rfl rfl (by kernel_rfl) Tryd.func4 (by kernel_rfl)
    (of_decide_eq_true (by kernel_rfl)) (by unfold Func.isWrapper; first | (rw [if_pos (by decide +kernel)]; kernel_rfl) | (rw [if_neg (by decide +kernel)]; exact ⟨rfl, rfl⟩))
    (fun os started H enc _ => lifted os started H enc)

theorem carded : Rows.BitsRunsCardSaid :=
  Claim7.holds_tied_plain_at .later [] [.data] true (true, Rows.bitsRunsCard.stood.harness.2) false
    proved (fun _ h => by cases h) (by kernel_rfl) (fun _ h => by cases h) bitsRuns_row_tie rfl ⟨rfl, rfl⟩ (by kernel_rfl) rfl
    (fun f fn hf hfn => by
      obtain rfl : f = 4 := Option.some.inj ((show Tryd.prog.funcNamed "cooper/cooperlaw01.BitsRuns" = some 4 by kernel_rfl).symm.trans hf) |>.symm
      obtain rfl : fn = Tryd.f4 := (Option.some.inj (Tryd.func4.symm.trans hfn)).symm
      exact ⟨by kernel_rfl, fun j t ht => by
        rw [Tryd.params4] at ht
        have hm : t ∈ [22, 3, 35] := by simpa using Array.mem_of_getElem? ht
        have hall : ([22, 3, 35].all fun u => !Tryd.prog.wantsStandIn u) = true := by kernel_rfl
        exact (show Tryd.prog.wantsStandIn t = false by simpa using List.all_eq_true.1 hall t hm)⟩)
    (by kernel_rfl)
#print axioms carded
end Go.Proofs.YtjojflodhghdbaaDoor.lawBitsRuns
