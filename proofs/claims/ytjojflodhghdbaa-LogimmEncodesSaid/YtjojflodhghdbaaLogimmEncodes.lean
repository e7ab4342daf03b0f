/- PROVED: LogimmEncodes returns true for every value and every width; each argument reads behind the call as it read before. No condition. -/
import Derived.Test.YtjojflodhghdbaaLogL
import Derived.Test.YtjojflodhghdbaaOpen
import Derived.ProofKit
import Derived.OpenShut
import Derived.Lib.SmallJoins
namespace Go.Proofs.Ytjojflodhghdbaa.lawLogimmEncodes
open Go.ChangeShapes Go.WideShapes Go.ChangeAt Go.RowKit Go.Sort Go.Joins
attribute [local go_sem] cell_gr frozen_gr
set_option linter.unusedVariables false

theorem walk (v wd : Int) (w : World) (hv : U64 v) (hw : I64 wd) : Calls Try.prog 10 #[.int .u64 v, .int .i64 wd] w (Ret (.bool true) w) := by
  have c1 := Lib.hid (encode_any v wd hv)
  have c2 := Lib.hid (rencode_any v wd hv)
  have c3 := Lib.hid (field_any v wd hv)
  have c4 := Lib.hid (rfield_any v wd hv)
  have c5 := Lib.hid (pattern_any v wd hv)
  have c6 := Lib.hid (rpattern_any v wd hv)
  have hB : Below w.heap.size w w := Below.refl _ _
  generalize encN v wd = a at *
  generalize encR v wd = b at *
  generalize encM v wd = c at *
  generalize encF v wd = d at *
  generalize patErr v wd = f at *
  generalize (((patP v wd).1 : Nat) : Int) = x at *
  generalize (((patP v wd).2.1 : Nat) : Int) = y at *
  generalize (((patP v wd).2.2 : Nat) : Int) = z at *
  go_enter Try.func10, Try.ntmps10
  go_wp2_with (first
    | (go_at_call 40; refine (c1.out _).mono ?_; rintro e w1 ⟨rfl, hb1⟩; replace hB := bthen hB hb1 hB.size)
    | (go_at_call 41; refine (c2.out _).mono ?_; rintro e w2 ⟨rfl, hb2⟩; replace hB := bthen hB hb2 hB.size)
    | (go_at_call 42; refine (c3.out _).mono ?_; rintro e w3 ⟨rfl, hb3⟩; replace hB := bthen hB hb3 hB.size)
    | (go_at_call 43; refine (c4.out _).mono ?_; rintro e w4 ⟨rfl, hb4⟩; replace hB := bthen hB hb4 hB.size)
    | (go_at_call 44; refine (c5.out _).mono ?_; rintro e w5 ⟨rfl, hb5⟩; replace hB := bthen hB hb5 hB.size)
    | (go_at_call 45; refine (c6.out _).mono ?_; rintro e w6 ⟨rfl, hb6⟩; replace hB := bthen hB hb6 hB.size)
    | (go_at_call 39; refine (begun_any _).mono ?_; rintro e w7 ⟨rfl, hb7⟩; replace hB := bthen hB hb7 hB.size))
  go_returns
  exact ⟨by simp, hB⟩
theorem own : ownKnob Try.prog.godebug = none := by kernel_rfl
theorem laidOut : laidOutB Try.prog = true := by kernel_rfl
set_option maxRecDepth 100000 in
theorem lifted (os : Os) (started : os.Started) (H : Type) (enc : TypeId × Value → H) :
    ReturnsInHanded {} Try.checked os 10 .any (Rows.logimmEncodesSpec.pre6 enc Try.prog Try.f10 Rows.logimmEncodesRow.domain false) (Rows.logimmEncodesSpec.post enc Try.prog Try.f10 false true false false) := by
  refine returnsInHanded_of_change (C := Try.checked) own started (by kernel_rfl) Try.func10
    (ChangeSpec.witness6 (enc := enc) (C := Try.checked) false ⟨#[], #[.int .u64 0, .int .i64 0], []⟩ 8 (by kernel_rfl) (by kernel_rfl) (by kernel_rfl) (by kernel_rfl)) ?_
  intro W base args ds gs before hval0 hW hcnd _
  have hval : ∀ (j : Nat) t v, Try.f10.params[j]? = some t → args[j]? = some v → Value.okWide Try.prog W .any base t v := hval0
  have hW' := hW
  obtain ⟨p, q, hA0, hV, rfl, hfz, hnd⟩ := hW
  have hA : DataW.TrodAll enc Try.prog W 0 (fun _ => true) true Try.f10.params.toList args.toList ds p := hA0
  rw [Try.params10] at hA hval
  obtain ⟨v0, vs0, d0, ds0, p0, q0, hargs, rfl, rfl, h0, r0⟩ := trodAll_cons hA
  obtain ⟨v1, vs1, d1, ds1, p1, q1, rfl, rfl, rfl, h1, r1⟩ := trodAll_cons r0
  obtain ⟨rfl, rfl, rfl⟩ := trodAll_nil r1
  obtain rfl : args = #[v0, v1] := by cases args; simp_all
  obtain ⟨rfl, rfl⟩ := trodVars_none hV
  have k0 := h0
  have k1 := h1
  have lt0 : ∀ x ∈ p0, x.block < W.heap.size := by obtain ⟨m, hm⟩ := k0; exact DataW.trod_lt m _ _ _ hm
  have lt1 : ∀ x ∈ p1, x.block < W.heap.size := by obtain ⟨m, hm⟩ := k1; exact DataW.trod_lt m _ _ _ hm
  obtain ⟨a0, rfl, _, _, w0⟩ := open_int Try.underlying31 (hval 0 31 v0 rfl rfl) h0
  obtain ⟨a1, rfl, _, _, w1⟩ := open_int Try.underlying3 (hval 1 3 v1 rfl rfl) h1
  clear hA0 hval0
  refine (walk a0 a1 W (u64_wf w0) (i64_wf w1)).mono fun e W' ⟨he, bel⟩ => ?_
  subst he
  exact ⟨_, rfl, _, _, _, [], _, [], hW', trodAll_mk1 (shut_bool Try.underlying4 _), (trodAll_cons_mk (Below.trod laidOut (by kernel_rfl) (of_decide_eq_true (by kernel_rfl)) k0 bel lt0) (trodAll_cons_mk (Below.trod laidOut (by kernel_rfl) (of_decide_eq_true (by kernel_rfl)) k1 bel lt1) trodAll_mk0)), rfl, bel.frame _, fun h => by cases h⟩

theorem proved : Rows.LogimmEncodesSaid :=
  OpenClaim.holds_of_wide 10 Try.f10 rfl rfl rfl rfl rfl rfl rfl ⟨rfl, rfl, rfl, rfl, rfl⟩ rfl rfl rfl rfl rfl (by kernel_rfl) Try.func10 (by kernel_rfl)
    (of_decide_eq_true (by kernel_rfl)) (by unfold Func.isWrapper; first | (rw [if_pos (by decide +kernel)]; kernel_rfl) | (rw [if_neg (by decide +kernel)]; exact ⟨rfl, rfl⟩))
    (fun os started H enc _ => lifted os started H enc)
#print axioms proved
end Go.Proofs.Ytjojflodhghdbaa.lawLogimmEncodes
