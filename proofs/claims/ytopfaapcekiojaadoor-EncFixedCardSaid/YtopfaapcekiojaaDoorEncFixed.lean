/- PROVED: EncFixed returns true for every instruction; the argument reads behind the call as it read before. The condition: the table of math/bits is laid. -/
import Derived.Test.YtopfaapcekiojaaDoorFxF0
import Derived.Test.YtopfaapcekiojaaDoorFxF1
import Derived.Test.YtopfaapcekiojaaDoorFxF2
import Derived.Test.YtopfaapcekiojaaDoorLaidT
import Derived.Test.YtopfaapcekiojaaDoorTie
import Derived.Test.YtopfaapcekiojaaDoorCards
import Derived.SevenTiedAt
import Derived.Handy
import Derived.ProofKit
import Derived.OpenShut
import Derived.Lib.SmallJoins
namespace Go.Proofs.YtopfaapcekiojaaDoor.lawEncFixed
open Go.ChangeShapes Go.WideShapes Go.ChangeAt Go.RowKit Go.Sort Go.Joins Go.Shelf Sym
set_option linter.unusedVariables false

theorem run_all : ∀ k, 1 ≤ k → k < 33 → runB k = true
  | 0, h, _ => by omega
  | 1, _, _ => run_1
  | 2, _, _ => run_2
  | 3, _, _ => run_3
  | 4, _, _ => run_4
  | 5, _, _ => run_5
  | 6, _, _ => run_6
  | 7, _, _ => run_7
  | 8, _, _ => run_8
  | 9, _, _ => run_9
  | 10, _, _ => run_10
  | 11, _, _ => run_11
  | 12, _, _ => run_12
  | 13, _, _ => run_13
  | 14, _, _ => run_14
  | 15, _, _ => run_15
  | 16, _, _ => run_16
  | 17, _, _ => run_17
  | 18, _, _ => run_18
  | 19, _, _ => run_19
  | 20, _, _ => run_20
  | 21, _, _ => run_21
  | 22, _, _ => run_22
  | 23, _, _ => run_23
  | 24, _, _ => run_24
  | 25, _, _ => run_25
  | 26, _, _ => run_26
  | 27, _, _ => run_27
  | 28, _, _ => run_28
  | 29, _, _ => run_29
  | 30, _, _ => run_30
  | 31, _, _ => run_31
  | 32, _, _ => run_32
  | k + 33, _, h => by omega
theorem walk (x : Ins) (w : World) (hx : x.wf) (hg : 0 < w.heap.size) (hT : Tab w) : Calls Tryd.prog 3 #[x.val] w (Ret (.bool true) w) := by
  obtain ⟨v, z, ev, hv⟩ := enc_fx x hx
  by_cases hz : z = 0
  · subst hz
    obtain ⟨k, k1, k2, hk, mt⟩ := hv rfl
    have hr := run_all k k1 k2
    unfold runB at hr
    have ok : (fxCx (fixB k) (fixM k)).Ok (insEnv x (letE v 0) (fun _ => false) w) := by
      refine ⟨(by intro i l h e; cases e), (by intro i l h e; cases e), fun _ => rfl, insM, ?_⟩
      intro p hp
      replace hp : p ∈ [(SE.bin (.mt (fixM k) (fixB k)) (.var 8) (.lit 0), true)] := hp
      simp only [List.mem_cons, List.not_mem_nil, or_false] at hp
      subst hp
      exact mt
    refine runF_true (cx := fxCx (fixB k) (fixM k)) ok (sums_of ?_) insM rfl rfl (args := [instS (.var 7)]) (vals := [x.val]) rfl hr
    intro p hp
    replace hp : p ∈ lawSums (fixB k) (fixM k) (.lit 0) := hp
    simp only [lawSums, List.mem_cons, List.not_mem_nil, or_false] at hp
    rcases hp with rfl | rfl | rfl | rfl | rfl
    · exact pat_s (vals := []) (x := .bool true) (fun β => rfl) (fun β => rfl) live_any
    · exact pat_s (vals := [x.val]) (x := .tuple #[.int .u32 v, .int .i64 0]) (fun β => rfl) (fun β => rfl) ev
    · refine pat_s (vals := [.int .i64 x.op]) (x := .tuple #[.int .u32 (fixB k), .int .u32 (fixM k), .int .i64 0]) (fun β => rfl) (fun β => rfl) ?_
      rw [hk]
      exact (fx_all k k1 k2).1
    · exact tz_s rfl hT hg
    · exact ones_s ones_any
  · have hr := bad_run
    unfold badB at hr
    have ok : badCx.Ok (insEnv x (letE v z) (fun _ => false) w) := by
      refine ⟨(by intro i l h e; cases e), (by intro i l h e; cases e), fun _ => rfl, insM, ?_⟩
      intro p hp
      replace hp : p ∈ [(SE.bin .eq (.var 9) (.lit 0), false)] := hp
      simp only [List.mem_cons, List.not_mem_nil, or_false] at hp
      subst hp
      show (z == 0) = false
      simpa using hz
    refine runF_true (cx := badCx) ok (sums_of ?_) insM rfl rfl (args := [instS (.var 7)]) (vals := [x.val]) rfl hr
    intro p hp
    replace hp : p ∈ [(4, patS [] (.p (.c (.bool .tt)))), (5, patS [instS (.var 7)] (.tup [.c (.int .u32 (.var 8)), .c (.int .i64 (.var 9))]))] := hp
    simp only [List.mem_cons, List.not_mem_nil, or_false] at hp
    rcases hp with rfl | rfl
    · exact pat_s (vals := []) (x := .bool true) (fun β => rfl) (fun β => rfl) live_any
    · exact pat_s (vals := [x.val]) (x := .tuple #[.int .u32 v, .int .i64 z]) (fun β => rfl) (fun β => rfl) ev
theorem own : ownKnob Tryd.prog.godebug = none := by kernel_rfl
theorem laidOut : laidOutB Tryd.prog = true := by kernel_rfl
set_option maxRecDepth 100000 in
theorem lifted (os : Os) (started : os.Started) (H : Type) (enc : TypeId × Value → H) :
    ReturnsInHanded {} Tryd.checked os 3 .any (fun w args => (Rows.encFixedSpec.pre enc Tryd.prog Tryd.f3 [] false w args ∧ laidMetH Tryd.prog laidT w) ∧ sizedMet enc Tryd.prog Tryd.f3 (OpenSpec.ofChange Rows.encFixedSpec) false w args) (Rows.encFixedSpec.post enc Tryd.prog Tryd.f3 false true false false) := by
  refine returnsInHanded_of_change_and (C := Tryd.checked) (X := fun w _ => laidMetH Tryd.prog laidT w) (fun _ _ _ hh h => h.of_heap hh) own started (by kernel_rfl) Tryd.func3
    (ChangeSpec.witness_shaped (enc := enc) (C := Tryd.checked) (os := os) (X := fun w _ => laidMetH Tryd.prog laidT w) false (World.doorLaid Tryd.prog 400 os) #[.agg #[.int .i64 0, .bool false, .bool false, .int .i64 0, .int .i64 0, .int .i64 0, .int .i64 0, .int .i64 0, .int .i64 0, .int .i64 0]] 8 rfl (World.shaped_of_RefB (by kernel_rfl) (by kernel_rfl)) (by kernel_rfl) (by kernel_rfl) (by kernel_rfl) (laid_met os _)) ?_
  intro W base args ds gs before hval0 hW _ _ hL _
  obtain ⟨hg0, hT0⟩ := tab_of_laid hL
  have hval : ∀ (j : Nat) t v, Tryd.f3.params[j]? = some t → args[j]? = some v → Value.okWide Tryd.prog W .any base t v := hval0
  have hW' := hW
  obtain ⟨p, q, hA0, hV, rfl, hfz, hnd⟩ := hW
  have hA : DataW.TrodAll enc Tryd.prog W 0 (fun _ => true) true Tryd.f3.params.toList args.toList ds p := hA0
  rw [Tryd.params3] at hA hval
  obtain ⟨v0, vs0, d0, ds0, p0, q0, hargs, rfl, rfl, h0, r0⟩ := trodAll_cons hA
  obtain ⟨rfl, rfl, rfl⟩ := trodAll_nil r0
  obtain rfl : args = #[v0] := by cases args; simp_all
  obtain ⟨rfl, rfl⟩ := trodVars_none hV
  have k0 := h0
  have lt0 : ∀ x ∈ p0, x.block < W.heap.size := by obtain ⟨m, hm⟩ := k0; exact DataW.trod_lt m _ _ _ hm
  obtain ⟨y0, rfl, b0⟩ := open_inst (hval 0 23 v0 rfl rfl) h0
  clear hA0 hval0
  refine (walk y0 W b0 hg0 hT0).mono fun e W' ⟨he, bel⟩ => ?_
  subst he
  exact ⟨_, rfl, _, _, _, [], _, [], hW', trodAll_mk1 (shut_bool Tryd.underlying4 _), (trodAll_cons_mk (Below.trod laidOut (by kernel_rfl) (of_decide_eq_true (by kernel_rfl)) k0 bel lt0) trodAll_mk0), rfl, bel.frame _, fun h => by cases h⟩

theorem proved : Rows.EncFixedSaid :=
  OpenClaim.holds_of_wide 3 Tryd.f3 rfl rfl rfl rfl rfl rfl rfl ⟨rfl, rfl, rfl, rfl, rfl⟩ rfl rfl rfl rfl rfl (by kernel_rfl) Tryd.func3 (by kernel_rfl)
    (of_decide_eq_true (by kernel_rfl)) (by unfold Func.isWrapper; first | (rw [if_pos (by decide +kernel)]; kernel_rfl) | (rw [if_neg (by decide +kernel)]; exact ⟨rfl, rfl⟩))
    (fun os started H enc _ => lifted os started H enc)

theorem carded : Rows.EncFixedCardSaid :=
  Claim7.holds_tied_plain_at .later [] [.data] true (true, Rows.encFixedCard.stood.harness.2) false
    proved (fun _ h => by cases h) (by kernel_rfl) (fun _ h => by cases h) encFixed_row_tie rfl ⟨rfl, rfl⟩ (by kernel_rfl) rfl
    (fun f fn hf hfn => by
      obtain rfl : f = 3 := Option.some.inj ((show Tryd.prog.funcNamed "cooper/cooperlaw05.EncFixed" = some 3 by kernel_rfl).symm.trans hf) |>.symm
      obtain rfl : fn = Tryd.f3 := (Option.some.inj (Tryd.func3.symm.trans hfn)).symm
      exact ⟨by kernel_rfl, fun j t ht => by
        rw [Tryd.params3] at ht
        have hm : t ∈ [23] := by simpa using Array.mem_of_getElem? ht
        have hall : ([23].all fun u => !Tryd.prog.wantsStandIn u) = true := by kernel_rfl
        exact (show Tryd.prog.wantsStandIn t = false by simpa using List.all_eq_true.1 hall t hm)⟩)
    (by kernel_rfl)
#print axioms carded
end Go.Proofs.YtopfaapcekiojaaDoor.lawEncFixed
