/- PROVED: EncClasses returns true for every class, every word and every distance; the arguments read behind the call as they read before. The condition: the table of math/bits is laid. -/
import Derived.Test.YtopfaapcekiojaaGreatDoorFxF0
import Derived.Test.YtopfaapcekiojaaGreatDoorFxF1
import Derived.Test.YtopfaapcekiojaaGreatDoorFxF2
import Derived.Test.YtopfaapcekiojaaGreatDoorFxF3
import Derived.Test.YtopfaapcekiojaaGreatDoorFxB0
import Derived.Test.YtopfaapcekiojaaGreatDoorFxB1
import Derived.Test.YtopfaapcekiojaaGreatDoorLaidT
import Derived.Test.YtopfaapcekiojaaGreatDoorTie
import Derived.Test.YtopfaapcekiojaaGreatDoorCards
import Derived.SevenTiedAt
import Derived.Handy
import Derived.ProofKit
import Derived.OpenShut
import Derived.Lib.SmallJoins
namespace Go.Proofs.YtopfaapcekiojaaGreatDoor.lawEncClasses
open Go.ChangeShapes Go.WideShapes Go.ChangeAt Go.RowKit Go.Sort Go.Joins Go.Shelf Sym
set_option linter.unusedVariables false

theorem run_all : ∀ k, 1 ≤ k → k < 33 → runB k = true
  | 0, h, _ => by omega
  | 1, _, _ => run_1
  | 2, _, _ => run_2
  | 3, _, _ => run_3
  | 4, _, _ => run_4
  | 5, _, _ => run_5
  | 6, _, _ => run_6
  | 7, _, _ => run_7
  | 8, _, _ => run_8
  | 9, _, _ => run_9
  | 10, _, _ => run_10
  | 11, _, _ => run_11
  | 12, _, _ => run_12
  | 13, _, _ => run_13
  | 14, _, _ => run_14
  | 15, _, _ => run_15
  | 16, _, _ => run_16
  | 17, _, _ => run_17
  | 18, _, _ => run_18
  | 19, _, _ => run_19
  | 20, _, _ => run_20
  | 21, _, _ => run_21
  | 22, _, _ => run_22
  | 23, _, _ => run_23
  | 24, _, _ => run_24
  | 25, _, _ => run_25
  | 26, _, _ => run_26
  | 27, _, _ => run_27
  | 28, _, _ => run_28
  | 29, _, _ => run_29
  | 30, _, _ => run_30
  | 31, _, _ => run_31
  | 32, _, _ => run_32
  | k + 33, _, h => by omega
theorem walk (op v a : Int) (w : World) (ho : I64 op) (hv : U32 v) (ha : I64 a) (hg : 0 < w.heap.size) (hT : Tab w) : Calls Tryz.prog 3 #[.int .i64 op, .int .u32 v, .int .i64 a] w (Ret (.bool true) w) := by
  have bd : ∀ {lo hi : Int}, lo ≤ op → op ≤ hi → BdOk (bdC lo hi) (insI (opY op) (letE v a)) := by
    intro lo hi h1 h2
    exact bd_cons ⟨h1, h2⟩ (bd_cons (show 0 ≤ v ∧ v ≤ 4294967295 from ⟨hv.1, Int.le_of_lt_add_one (by have := hv.2; show v < _; omega)⟩) (bd_cons (i64_bd ha) (by intro i l h e; cases e)))
  have good := insGood (opY op) (letE v a) (fun _ => false) w
  have no : ∀ {lo hi : Int} {e : SE}, lo ≤ op → op ≤ hi → e.int (insEnv (opY op) (letE v a) (fun _ => false) w) = op → noB lo hi e = true → Calls Tryz.prog 3 #[.int .i64 op, .int .u32 v, .int .i64 a] w (Ret (.bool true) w) := by
    intro lo hi e h1 h2 he hr
    unfold noB at hr
    have ok : (noCx lo hi).Ok (insEnv (opY op) (letE v a) (fun _ => false) w) := ⟨bd h1 h2, (by intro i l h e; cases e), fun _ => rfl, insM, (by intro p hp; cases hp)⟩
    refine runF_true (cx := noCx lo hi) ok (sums_of ?_) insM rfl rfl (args := [.p (.c (.int .i64 e)), wS, aS]) (vals := [.int .i64 op, .int .u32 v, .int .i64 a]) ?_ hr
    · intro p hp
      replace hp : p ∈ noSums := hp
      unfold noSums at hp
      rcases List.mem_cons.1 hp with rfl | hp
      · exact pat_s (vals := []) (x := .bool true) (fun β => rfl) (fun β => rfl) live_any
      · exact ok_bitSums _ _ good (fun _ => rfl) rfl p hp
    · exact one_den (int_s he) rfl
  refine by_class ho (fun k hk e => ?_) (fun h => ?_) (fun h => ?_)
  · by_cases h0 : k = 0
    · subst h0
      exact no (lo := 0) (hi := 0) (e := .lit 0) (by omega) (by omega) e.symm run_0
    · have k1 : 1 ≤ k := by omega
      have hr := run_all k k1 hk
      unfold runB at hr
      have ok : (clCx k).Ok (insEnv (opY op) (letE v a) (fun _ => false) w) := ⟨bd (by omega) (by omega), (by intro i l h e; cases e), fun _ => rfl, insM, (by intro p hp; cases hp)⟩
      refine runF_true (cx := clCx k) ok (sums_of ?_) insM rfl rfl (args := [.p (.c (.int .i64 (.lit (.ofNat k)))), wS, aS]) (vals := [.int .i64 op, .int .u32 v, .int .i64 a]) ?_ hr
      · intro p hp
        replace hp : p ∈ clSums k (fixB k) (fixM k) := hp
        unfold clSums at hp
        rcases List.mem_cons.1 hp with rfl | hp
        · exact pat_s (vals := []) (x := .bool true) (fun β => rfl) (fun β => rfl) live_any
        · rcases List.mem_cons.1 hp with rfl | hp
          · exact pat_s (vals := [.int .i64 (.ofNat k)]) (x := .tuple #[.int .u32 (.ofNat (fixB k)), .int .u32 (.ofNat (fixM k)), .int .i64 0]) (fun β => rfl) (fun β => rfl) (b_ok (bp_all k k1 hk))
          · rcases List.mem_cons.1 hp with rfl | hp
            · exact pat_s (vals := [.int .i64 (.ofNat k)]) (x := .tuple #[.int .u32 (.ofNat (fixB k)), .int .u32 (.ofNat (fixM k)), .int .i64 0]) (fun β => rfl) (fun β => rfl) (b_ok (br_all k k1 hk))
            · rcases List.mem_cons.1 hp with rfl | hp
              · exact tz_s rfl hT hg
              · rcases List.mem_cons.1 hp with rfl | hp
                · exact bit_s rfl
                · exact ok_bitSums _ _ good (fun _ => rfl) rfl p hp
      · exact one_den (int_s e.symm) rfl
  · exact no (i64_bd ho).1 (by omega) rfl run_lo
  · exact no (by omega) (i64_bd ho).2 rfl run_hi
theorem own : ownKnob Tryz.prog.godebug = none := by kernel_rfl
theorem laidOut : laidOutB Tryz.prog = true := by kernel_rfl
set_option maxRecDepth 100000 in
theorem lifted (os : Os) (started : os.Started) (H : Type) (enc : TypeId × Value → H) :
    ReturnsInHanded {} Tryz.checked os 3 .any (fun w args => (Rows.encClassesSpec.pre enc Tryz.prog Tryz.f3 [] false w args ∧ laidMetH Tryz.prog laidT w) ∧ sizedMet enc Tryz.prog Tryz.f3 (OpenSpec.ofChange Rows.encClassesSpec) false w args) (Rows.encClassesSpec.post enc Tryz.prog Tryz.f3 false true false false) := by
  refine returnsInHanded_of_change_and (C := Tryz.checked) (X := fun w _ => laidMetH Tryz.prog laidT w) (fun _ _ _ hh h => h.of_heap hh) own started (by kernel_rfl) Tryz.func3
    (ChangeSpec.witness_shaped (enc := enc) (C := Tryz.checked) (os := os) (X := fun w _ => laidMetH Tryz.prog laidT w) false (World.doorLaid Tryz.prog 400 os) #[.int .i64 0, .int .u32 0, .int .i64 0] 8 rfl (World.shaped_of_RefB (by kernel_rfl) (by kernel_rfl)) (by kernel_rfl) (by kernel_rfl) (by kernel_rfl) (laid_met os _)) ?_
  intro W base args ds gs before hval0 hW _ _ hL _
  obtain ⟨hg0, hT0⟩ := tab_of_laid hL
  have hval : ∀ (j : Nat) t v, Tryz.f3.params[j]? = some t → args[j]? = some v → Value.okWide Tryz.prog W .any base t v := hval0
  have hW' := hW
  obtain ⟨p, q, hA0, hV, rfl, hfz, hnd⟩ := hW
  have hA : DataW.TrodAll enc Tryz.prog W 0 (fun _ => true) true Tryz.f3.params.toList args.toList ds p := hA0
  rw [Tryz.params3] at hA hval
  obtain ⟨v0, vs0, d0, ds0, p0, q0, hargs, rfl, rfl, h0, r0⟩ := trodAll_cons hA
  obtain ⟨v1, vs1, d1, ds1, p1, q1, rfl, rfl, rfl, h1, r1⟩ := trodAll_cons r0
  obtain ⟨v2, vs2, d2, ds2, p2, q2, rfl, rfl, rfl, h2, r2⟩ := trodAll_cons r1
  obtain ⟨rfl, rfl, rfl⟩ := trodAll_nil r2
  obtain rfl : args = #[v0, v1, v2] := by cases args; simp_all
  obtain ⟨rfl, rfl⟩ := trodVars_none hV
  have k0 := h0
  have k1 := h1
  have k2 := h2
  have lt0 : ∀ x ∈ p0, x.block < W.heap.size := by obtain ⟨m, hm⟩ := k0; exact DataW.trod_lt m _ _ _ hm
  have lt1 : ∀ x ∈ p1, x.block < W.heap.size := by obtain ⟨m, hm⟩ := k1; exact DataW.trod_lt m _ _ _ hm
  have lt2 : ∀ x ∈ p2, x.block < W.heap.size := by obtain ⟨m, hm⟩ := k2; exact DataW.trod_lt m _ _ _ hm
  obtain ⟨a0, rfl, _, _, w0⟩ := open_int Tryz.underlying3 (hval 0 3 v0 rfl rfl) h0
  obtain ⟨a1, rfl, _, _, w1⟩ := open_int Tryz.underlying22 (hval 1 22 v1 rfl rfl) h1
  obtain ⟨a2, rfl, _, _, w2⟩ := open_int Tryz.underlying2 (hval 2 2 v2 rfl rfl) h2
  clear hA0 hval0
  refine (walk a0 a1 a2 W (i64_wf w0) (u32_wf w1) (i64_wf w2) hg0 hT0).mono fun e W' ⟨he, bel⟩ => ?_
  subst he
  exact ⟨_, rfl, _, _, _, [], _, [], hW', trodAll_mk1 (shut_bool Tryz.underlying4 _), (trodAll_cons_mk (Below.trod laidOut (by kernel_rfl) (of_decide_eq_true (by kernel_rfl)) k0 bel lt0) (trodAll_cons_mk (Below.trod laidOut (by kernel_rfl) (of_decide_eq_true (by kernel_rfl)) k1 bel lt1) (trodAll_cons_mk (Below.trod laidOut (by kernel_rfl) (of_decide_eq_true (by kernel_rfl)) k2 bel lt2) trodAll_mk0))), rfl, bel.frame _, fun h => by cases h⟩

theorem proved : Rows.EncClassesSaid :=
  OpenClaim.holds_of_wide 3 Tryz.f3 rfl rfl rfl rfl rfl rfl rfl ⟨rfl, rfl, rfl, rfl, rfl⟩ rfl rfl rfl rfl rfl (by kernel_rfl) Tryz.func3 (by kernel_rfl)
    (of_decide_eq_true (by kernel_rfl)) (by unfold Func.isWrapper; first | (rw [if_pos (by decide +kernel)]; kernel_rfl) | (rw [if_neg (by decide +kernel)]; exact ⟨rfl, rfl⟩))
    (fun os started H enc _ => lifted os started H enc)

theorem carded : Rows.EncClassesCardSaid :=
  Claim7.holds_tied_plain_at .later [] [.data] true (true, Rows.encClassesCard.stood.harness.2) false
    proved (fun _ h => by cases h) (by kernel_rfl) (fun _ h => by cases h) encClasses_row_tie rfl ⟨rfl, rfl⟩ (by kernel_rfl) rfl
    (fun f fn hf hfn => by
      obtain rfl : f = 3 := Option.some.inj ((show Tryz.prog.funcNamed "cooper/cooperlaw05.EncClasses" = some 3 by kernel_rfl).symm.trans hf) |>.symm
      obtain rfl : fn = Tryz.f3 := (Option.some.inj (Tryz.func3.symm.trans hfn)).symm
      exact ⟨by kernel_rfl, fun j t ht => by
        rw [Tryz.params3] at ht
        have hm : t ∈ [3, 22, 2] := by simpa using Array.mem_of_getElem? ht
        have hall : ([3, 22, 2].all fun u => !Tryz.prog.wantsStandIn u) = true := by kernel_rfl
        exact (show Tryz.prog.wantsStandIn t = false by simpa using List.all_eq_true.1 hall t hm)⟩)
    (by kernel_rfl)
#print axioms carded
end Go.Proofs.YtopfaapcekiojaaGreatDoor.lawEncClasses
