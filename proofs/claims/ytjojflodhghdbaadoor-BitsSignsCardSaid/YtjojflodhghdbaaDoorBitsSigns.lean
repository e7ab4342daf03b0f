/- PROVED: BitsSigns returns true for every number and every width; each argument reads behind the call as it read before. The table of math/bits is laid and tied. -/
import Derived.Test.YtjojflodhghdbaaDoorRunP
import Derived.Test.YtjojflodhghdbaaDoorLaw01L
import Derived.Test.YtjojflodhghdbaaDoorLaidT
import Derived.Test.YtjojflodhghdbaaDoorCards
import Derived.Test.YtjojflodhghdbaaDoorTie
import Derived.SevenTiedAt
import Derived.Test.YtjojflodhghdbaaDoorOpen
import Derived.ProofKit
import Derived.Handy
import Derived.OpenShut
import Derived.Lib.SmallJoins
namespace Go.Proofs.YtjojflodhghdbaaDoor.lawBitsSigns
open Go.ChangeShapes Go.WideShapes Go.ChangeAt Go.RowKit Go.Sort Go.Joins Go.Shelf
attribute [local go_sem] cell_gr frozen_gr
set_option linter.unusedVariables false

set_option maxRecDepth 100000 in
set_option maxHeartbeats 4000000 in
theorem walk (v x : Int) (w : World) (hv : U64 v) (hx : I64 x) (hg : 0 < w.heap.size) (hT : Tab w) : Calls Tryd.prog 3 #[.int .u64 v, .int .i64 x] w (Ret (.bool true) w) := by
  have hB : Below w.heap.size w w := Below.refl _ _
  cases hW : wideB x
  · have e : (signE x != 0) = true := by unfold signE; rw [hW]; rfl
    go_enter Tryd.func3, Tryd.ntmps3
    go_wp2_with (first
      | (go_at_call 5; refine (live_any _).mono ?_; rintro e w7 ⟨rfl, hb7⟩; replace hB := bthen hB hb7 hB.size)
      | (go_at_call 6; refine (sign_any _ _ _ hv hx).mono ?_; rintro e w1 ⟨rfl, hb1⟩; replace hB := bthen hB hb1 hB.size))
    go_returns
    exact ⟨by simp, hB⟩
  · have e : (signE x != 0) = false := by unfold signE; rw [hW]; rfl
    obtain ⟨h1, h2⟩ := (wideB_iff x).1 hW
    obtain ⟨p1, p2, p3⟩ := runB_low v x hv h1 h2
    have p4 := runs_sum v x hv h1 h2
    have p5 := sign_fits v x hW
    have p6 := sign_low v x hv hW
    have p7 := sign_bd v x
    have hr := Lib.hid (fun W hg hT => runs_list v x hv hx W hg hT)
    have hln := cntB_le (fun i => (runB v x).testBit i) 64
    rw [← sumR_ref] at hln
    obtain ⟨L, hL⟩ : ∃ L, L = refR (fun i => (runB v x).testBit i) 64 := ⟨_, rfl⟩
    have hll := refR_len (fun i => (runB v x).testBit i) 64
    rw [← hL] at hr p4 hln hll
    have cs := Lib.hid (fun W => sign_any v x W hv hx)
    have cl := Lib.hid (fun W => low_any v x W hv hx)
    have cl2 := Lib.hid (fun W => low_any (IntKind.u64.wrap (signI v x)) x W (u64w _) hx)
    have cf := Lib.hid (fun W => fits_any (signI v x) x true W p7 hx)
    rw [p5] at cf
    rw [p6] at cl2
    clear p5 p6
    generalize signI v x = n at *
    have cp := Lib.hid (fun W => pop_same (lowI v x) W p3)
    rw [← p4] at cp
    generalize lowI v x = lo at *
    clear hL p1 p2
    go_enter Tryd.func3, Tryd.ntmps3
    go_wp2_with (first
      | (go_at_call 5; refine (live_any _).mono ?_; rintro e w7 ⟨rfl, hb7⟩; replace hB := bthen hB hb7 hB.size)
      | (go_at_call 6; refine (cs.out _).mono ?_; rintro e w1 ⟨rfl, hb1⟩; replace hB := bthen hB hb1 hB.size)
      | (go_at_call 7; refine (hr.out _ (by have := hB.size; omega) (hT.below hB hg)).mono ?_; clear hr; rintro e w2 ⟨v2, rfl, hrow, hb2⟩; replace hB := bthen hB hb2 hB.size; have hlv := hrow.len))
    clear cs
    go_loopw [7, 25] (fun a i wr => ∃ k : Nat, k ≤ L.length ∧ i = .int .i64 k ∧ a = .int .i64 (sumR (L.take k)) ∧ Below w2.heap.size w2 wr) (fun _ i _ => (L.length - intOf i).toNat)
    case atStart => exact ⟨0, by omega, rfl, by simp [sumR], Below.refl _ _⟩
    case round =>
      obtain ⟨k, hk, rfl, rfl, hbr⟩ := hrel
      by_cases hlt : k < L.length
      · obtain ⟨g, cap, rfl, hcell⟩ := (hrow.below hbr).cells (by omega)
        obtain ⟨p, hp⟩ : ∃ p, L[k]? = some p := ⟨_, List.getElem?_eq_getElem hlt⟩
        obtain ⟨y0, y1⟩ := hcell _ _ hp
        rw [Nat.mul_comm] at y0 y1
        have hs : sumR (L.take (k + 1)) = sumR (L.take k) + p.2 := by
          rw [List.take_add_one, hp]
          exact sumR_snoc _ _
        have hsl : sumR (L.take (k + 1)) ≤ 64 := by
          have : sumR (L.take (k + 1)) + sumR (L.drop (k + 1)) = sumR L := by
            unfold sumR
            rw [← List.sum_append, ← List.map_append, List.take_append_drop]
          omega
        generalize sumR (L.take k) = s at *
        replace hs := Lib.hid hs
        have hsl' : s + p.2 ≤ 64 := by rw [← hs.out]; exact hsl
        clear hcell hp hsl
        go_wp2
        go_roundw
        case rel => exact ⟨k + 1, by omega, by simp, by rw [hs.out]; simp, hbr.alloc (by have := hbr.size; omega) _⟩
        case measure => simp [intOf]; omega
      · obtain rfl : k = L.length := by omega
        rw [List.take_length]
        replace hB := bthen hB hbr hB.size
        go_wp2_with (first
          | (go_at_call 8; refine (cl.out _).mono ?_; clear cl; rintro e w3 ⟨rfl, hb3⟩; replace hB := bthen hB hb3 hB.size)
          | (go_at_call 9; refine (cf.out _).mono ?_; rintro e w4 ⟨rfl, hb4⟩; replace hB := bthen hB hb4 hB.size)
          | (go_at_call 8; refine (cl2.out _).mono ?_; rintro e w5 ⟨rfl, hb5⟩; replace hB := bthen hB hb5 hB.size)
          | (go_at_call 10; refine (cp.out _).mono ?_; rintro e w6 ⟨rfl, rfl⟩))
        go_returns
        exact ⟨by simp, hB⟩
theorem own : ownKnob Tryd.prog.godebug = none := by kernel_rfl
theorem laidOut : laidOutB Tryd.prog = true := by kernel_rfl
set_option maxRecDepth 100000 in
theorem lifted (os : Os) (started : os.Started) (H : Type) (enc : TypeId × Value → H) :
    ReturnsInHanded {} Tryd.checked os 3 .any (fun w args => (Rows.bitsSignsSpec.pre enc Tryd.prog Tryd.f3 [] false w args ∧ laidMetH Tryd.prog laidT w) ∧ sizedMet enc Tryd.prog Tryd.f3 (OpenSpec.ofChange Rows.bitsSignsSpec) false w args) (Rows.bitsSignsSpec.post enc Tryd.prog Tryd.f3 false true false false) := by
  refine returnsInHanded_of_change_and (C := Tryd.checked) (X := fun w _ => laidMetH Tryd.prog laidT w) (fun _ _ _ hh h => h.of_heap hh) own started (by kernel_rfl) Tryd.func3
    (ChangeSpec.witness_shaped (enc := enc) (C := Tryd.checked) (os := os) (X := fun w _ => laidMetH Tryd.prog laidT w) false (World.doorLaid Tryd.prog 400 os) #[.int .u64 0, .int .i64 0] 8 rfl (World.shaped_of_RefB (by kernel_rfl) (by kernel_rfl)) (by kernel_rfl) (by kernel_rfl) (by kernel_rfl) (laid_met os _)) ?_
  intro W base args ds gs before hval0 hW _ _ hL _
  obtain ⟨hg0, hT0⟩ := tab_of_laid hL
  have hval : ∀ (j : Nat) t v, Tryd.f3.params[j]? = some t → args[j]? = some v → Value.okWide Tryd.prog W .any base t v := hval0
  have hW' := hW
  obtain ⟨p, q, hA0, hV, rfl, hfz, hnd⟩ := hW
  have hA : DataW.TrodAll enc Tryd.prog W 0 (fun _ => true) true Tryd.f3.params.toList args.toList ds p := hA0
  rw [Tryd.params3] at hA hval
  obtain ⟨v0, vs0, d0, ds0, p0, q0, hargs, rfl, rfl, h0, r0⟩ := trodAll_cons hA
  obtain ⟨v1, vs1, d1, ds1, p1, q1, rfl, rfl, rfl, h1, r1⟩ := trodAll_cons r0
  obtain ⟨rfl, rfl, rfl⟩ := trodAll_nil r1
  obtain rfl : args = #[v0, v1] := by cases args; simp_all
  obtain ⟨rfl, rfl⟩ := trodVars_none hV
  have k0 := h0
  have k1 := h1
  have lt0 : ∀ x ∈ p0, x.block < W.heap.size := by obtain ⟨m, hm⟩ := k0; exact DataW.trod_lt m _ _ _ hm
  have lt1 : ∀ x ∈ p1, x.block < W.heap.size := by obtain ⟨m, hm⟩ := k1; exact DataW.trod_lt m _ _ _ hm
  obtain ⟨a0, rfl, _, _, w0⟩ := open_int Tryd.underlying22 (hval 0 22 v0 rfl rfl) h0
  obtain ⟨a1, rfl, _, _, w1⟩ := open_int Tryd.underlying3 (hval 1 3 v1 rfl rfl) h1
  clear hA0 hval0
  refine (walk a0 a1 W (u64_wf w0) (i64_wf w1) hg0 hT0).mono fun e W' ⟨he, bel⟩ => ?_
  subst he
  exact ⟨_, rfl, _, _, _, [], _, [], hW', trodAll_mk1 (shut_bool Tryd.underlying4 _), (trodAll_cons_mk (Below.trod laidOut (by kernel_rfl) (of_decide_eq_true (by kernel_rfl)) k0 bel lt0) (trodAll_cons_mk (Below.trod laidOut (by kernel_rfl) (of_decide_eq_true (by kernel_rfl)) k1 bel lt1) trodAll_mk0)), rfl, bel.frame _, fun h => by cases h⟩

theorem proved : Rows.BitsSignsSaid :=
  OpenClaim.holds_of_wide 3 Tryd.f3 rfl rfl rfl rfl rfl rfl rfl ⟨rfl, rfl, rfl, rfl, rfl⟩ rfl rfl rfl rfl rfl (by kernel_rfl) Tryd.func3 (by kernel_rfl)
    (of_decide_eq_true (by kernel_rfl)) (by unfold Func.isWrapper; first | (rw [if_pos (by decide +kernel)]; kernel_rfl) | (rw [if_neg (by decide +kernel)]; exact ⟨rfl, rfl⟩))
    (fun os started H enc _ => lifted os started H enc)

theorem carded : Rows.BitsSignsCardSaid :=
  Claim7.holds_tied_plain_at .later [] [.data] true (true, Rows.bitsSignsCard.stood.harness.2) false
    proved (fun _ h => by cases h) (by kernel_rfl) (fun _ h => by cases h) bitsSigns_row_tie rfl ⟨rfl, rfl⟩ (by kernel_rfl) rfl
    (fun f fn hf hfn => by
      obtain rfl : f = 3 := Option.some.inj ((show Tryd.prog.funcNamed "cooper/cooperlaw01.BitsSigns" = some 3 by kernel_rfl).symm.trans hf) |>.symm
      obtain rfl : fn = Tryd.f3 := (Option.some.inj (Tryd.func3.symm.trans hfn)).symm
      exact ⟨by kernel_rfl, fun j t ht => by
        rw [Tryd.params3] at ht
        have hm : t ∈ [22, 3] := by simpa using Array.mem_of_getElem? ht
        have hall : ([22, 3].all fun u => !Tryd.prog.wantsStandIn u) = true := by kernel_rfl
        exact (show Tryd.prog.wantsStandIn t = false by simpa using List.all_eq_true.1 hall t hm)⟩)
    (by kernel_rfl)
#print axioms carded
end Go.Proofs.YtjojflodhghdbaaDoor.lawBitsSigns
