/- PROVED: LogimmBack returns true for every value, every three parts, every field, every width; each argument reads behind the call as it read before. No condition. -/
import Derived.Test.YtjojflodhghdbaaLogP
import Derived.Test.YtjojflodhghdbaaOpen
import Derived.ProofKit
import Derived.OpenShut
import Derived.Lib.SmallJoins
namespace Go.Proofs.Ytjojflodhghdbaa.lawLogimmBack
open Go.ChangeShapes Go.WideShapes Go.ChangeAt Go.RowKit Go.Sort Go.Joins
attribute [local go_sem] cell_gr frozen_gr
set_option linter.unusedVariables false

set_option maxHeartbeats 4000000 in
theorem walk (v n r m f wd : Int) (w : World) (hv : U64 v) (hn : I64 n) (hr : I64 r) (hm : I64 m) (hf : I64 f) (hw : I64 wd) : Calls Try.prog 12 #[.int .u64 v, .int .i64 n, .int .i64 r, .int .i64 m, .int .i64 f, .int .i64 wd] w (Ret (.bool true) w) := by
  obtain ⟨hn1, hr1, hr2, hm1, hm2⟩ := enc_bounds v wd
  have i1 : I64 (encN v wd) := by unfold I64; omega
  have i2 : I64 (encR v wd) := by unfold I64; omega
  have i3 : I64 (encM v wd) := by unfold I64; omega
  have hB : Below w.heap.size w w := Below.refl _ _
  have c1 := Lib.hid encode_any
  have c2 := Lib.hid decode_any
  have c3 := Lib.hid (value_any f wd hf hw)
  have c4 := Lib.hid field_any
  clear hn1 hr1 hr2 hm1 hm2
  have d1 : (patErr v wd = 0 ∧ decE (encN v wd) (encR v wd) (encM v wd) wd = 0 ∧ decI (encN v wd) (encR v wd) (encM v wd) wd = v) ∨ (patErr v wd == 0) = false := by
    by_cases h : patErr v wd = 0
    · exact .inl ⟨h, dec_enc v wd hv h⟩
    · exact .inr (beq_false_of_ne h)
  have d2 : (decE n r m wd = 0 ∧ U64 (decI n r m wd) ∧ patErr (decI n r m wd) wd = 0 ∧ encN (decI n r m wd) wd = n ∧ encR (decI n r m wd) wd = r ∧ encM (decI n r m wd) wd = m) ∨ (decE n r m wd == 0) = false := by
    by_cases h : decE n r m wd = 0
    · exact .inl ⟨h, enc_dec n r m wd h⟩
    · exact .inr (beq_false_of_ne h)
  have d3 : (fldE f wd = 0 ∧ U64 (fldI f wd) ∧ patErr (fldI f wd) wd = 0 ∧ encF (fldI f wd) wd = f) ∨ (fldE f wd != 0) = true := by
    by_cases h : fldE f wd = 0
    · exact .inl ⟨h, field_back f wd h⟩
    · exact .inr (by simpa using h)
  rcases d1 with ⟨a1, a2, a3⟩ | a1 <;> rcases d2 with ⟨b1, b2, b3, b4, b5, b6⟩ | b1 <;> rcases d3 with ⟨g1, g2, g3, g4⟩ | g1
  all_goals
    go_enter Try.func12, Try.ntmps12
    go_wp2_with (first
      | (go_at_call 39; refine (begun_any _).mono ?_; rintro e w7 ⟨rfl, hb7⟩; replace hB := bthen hB hb7 hB.size)
      | (go_at_call 40; refine (c1.out _ _ (by assumption) _).mono ?_; rintro e w1 ⟨rfl, hb1⟩; replace hB := bthen hB hb1 hB.size)
      | (go_at_call 35; refine (c2.out _ _ _ _ (by assumption) (by assumption) (by assumption) (by assumption) _).mono ?_; rintro e w2 ⟨rfl, hb2⟩; replace hB := bthen hB hb2 hB.size)
      | (go_at_call 37; refine (c3.out _).mono ?_; rintro e w5 ⟨rfl, hb5⟩; replace hB := bthen hB hb5 hB.size)
      | (go_at_call 42; refine (c4.out _ _ (by assumption) _).mono ?_; rintro e w6 ⟨rfl, hb6⟩; replace hB := bthen hB hb6 hB.size))
    go_returns
    exact ⟨by simp, hB⟩
theorem own : ownKnob Try.prog.godebug = none := by kernel_rfl
theorem laidOut : laidOutB Try.prog = true := by kernel_rfl
set_option maxRecDepth 100000 in
theorem lifted (os : Os) (started : os.Started) (H : Type) (enc : TypeId × Value → H) :
    ReturnsInHanded {} Try.checked os 12 .any (Rows.logimmBackSpec.pre6 enc Try.prog Try.f12 Rows.logimmBackRow.domain false) (Rows.logimmBackSpec.post enc Try.prog Try.f12 false true false false) := by
  refine returnsInHanded_of_change (C := Try.checked) own started (by kernel_rfl) Try.func12
    (ChangeSpec.witness6 (enc := enc) (C := Try.checked) false ⟨#[], #[.int .u64 0, .int .i64 0, .int .i64 0, .int .i64 0, .int .i64 0, .int .i64 0], []⟩ 8 (by kernel_rfl) (by kernel_rfl) (by kernel_rfl) (by kernel_rfl)) ?_
  intro W base args ds gs before hval0 hW hcnd _
  have hval : ∀ (j : Nat) t v, Try.f12.params[j]? = some t → args[j]? = some v → Value.okWide Try.prog W .any base t v := hval0
  have hW' := hW
  obtain ⟨p, q, hA0, hV, rfl, hfz, hnd⟩ := hW
  have hA : DataW.TrodAll enc Try.prog W 0 (fun _ => true) true Try.f12.params.toList args.toList ds p := hA0
  rw [Try.params12] at hA hval
  obtain ⟨v0, vs0, d0, ds0, p0, q0, hargs, rfl, rfl, h0, r0⟩ := trodAll_cons hA
  obtain ⟨v1, vs1, d1, ds1, p1, q1, rfl, rfl, rfl, h1, r1⟩ := trodAll_cons r0
  obtain ⟨v2, vs2, d2, ds2, p2, q2, rfl, rfl, rfl, h2, r2⟩ := trodAll_cons r1
  obtain ⟨v3, vs3, d3, ds3, p3, q3, rfl, rfl, rfl, h3, r3⟩ := trodAll_cons r2
  obtain ⟨v4, vs4, d4, ds4, p4, q4, rfl, rfl, rfl, h4, r4⟩ := trodAll_cons r3
  obtain ⟨v5, vs5, d5, ds5, p5, q5, rfl, rfl, rfl, h5, r5⟩ := trodAll_cons r4
  obtain ⟨rfl, rfl, rfl⟩ := trodAll_nil r5
  obtain rfl : args = #[v0, v1, v2, v3, v4, v5] := by cases args; simp_all
  obtain ⟨rfl, rfl⟩ := trodVars_none hV
  have k0 := h0
  have k1 := h1
  have k2 := h2
  have k3 := h3
  have k4 := h4
  have k5 := h5
  have lt0 : ∀ x ∈ p0, x.block < W.heap.size := by obtain ⟨m, hm⟩ := k0; exact DataW.trod_lt m _ _ _ hm
  have lt1 : ∀ x ∈ p1, x.block < W.heap.size := by obtain ⟨m, hm⟩ := k1; exact DataW.trod_lt m _ _ _ hm
  have lt2 : ∀ x ∈ p2, x.block < W.heap.size := by obtain ⟨m, hm⟩ := k2; exact DataW.trod_lt m _ _ _ hm
  have lt3 : ∀ x ∈ p3, x.block < W.heap.size := by obtain ⟨m, hm⟩ := k3; exact DataW.trod_lt m _ _ _ hm
  have lt4 : ∀ x ∈ p4, x.block < W.heap.size := by obtain ⟨m, hm⟩ := k4; exact DataW.trod_lt m _ _ _ hm
  have lt5 : ∀ x ∈ p5, x.block < W.heap.size := by obtain ⟨m, hm⟩ := k5; exact DataW.trod_lt m _ _ _ hm
  obtain ⟨a0, rfl, _, _, w0⟩ := open_int Try.underlying31 (hval 0 31 v0 rfl rfl) h0
  obtain ⟨a1, rfl, _, _, w1⟩ := open_int Try.underlying3 (hval 1 3 v1 rfl rfl) h1
  obtain ⟨a2, rfl, _, _, w2⟩ := open_int Try.underlying3 (hval 2 3 v2 rfl rfl) h2
  obtain ⟨a3, rfl, _, _, w3⟩ := open_int Try.underlying3 (hval 3 3 v3 rfl rfl) h3
  obtain ⟨a4, rfl, _, _, w4⟩ := open_int Try.underlying3 (hval 4 3 v4 rfl rfl) h4
  obtain ⟨a5, rfl, _, _, w5⟩ := open_int Try.underlying3 (hval 5 3 v5 rfl rfl) h5
  clear hA0 hval0
  refine (walk a0 a1 a2 a3 a4 a5 W (u64_wf w0) (i64_wf w1) (i64_wf w2) (i64_wf w3) (i64_wf w4) (i64_wf w5)).mono fun e W' ⟨he, bel⟩ => ?_
  subst he
  exact ⟨_, rfl, _, _, _, [], _, [], hW', trodAll_mk1 (shut_bool Try.underlying4 _), (trodAll_cons_mk (Below.trod laidOut (by kernel_rfl) (of_decide_eq_true (by kernel_rfl)) k0 bel lt0) (trodAll_cons_mk (Below.trod laidOut (by kernel_rfl) (of_decide_eq_true (by kernel_rfl)) k1 bel lt1) (trodAll_cons_mk (Below.trod laidOut (by kernel_rfl) (of_decide_eq_true (by kernel_rfl)) k2 bel lt2) (trodAll_cons_mk (Below.trod laidOut (by kernel_rfl) (of_decide_eq_true (by kernel_rfl)) k3 bel lt3) (trodAll_cons_mk (Below.trod laidOut (by kernel_rfl) (of_decide_eq_true (by kernel_rfl)) k4 bel lt4) (trodAll_cons_mk (Below.trod laidOut (by kernel_rfl) (of_decide_eq_true (by kernel_rfl)) k5 bel lt5) trodAll_mk0)))))), rfl, bel.frame _, fun h => by cases h⟩

theorem proved : Rows.LogimmBackSaid :=
  OpenClaim.holds_of_wide 12 Try.f12 rfl rfl rfl rfl rfl rfl rfl ⟨rfl, rfl, rfl, rfl, rfl⟩ rfl rfl rfl rfl rfl (by kernel_rfl) Try.func12 (by kernel_rfl)
    (of_decide_eq_true (by kernel_rfl)) (by unfold Func.isWrapper; first | (rw [if_pos (by decide +kernel)]; kernel_rfl) | (rw [if_neg (by decide +kernel)]; exact ⟨rfl, rfl⟩))
    (fun os started H enc _ => lifted os started H enc)
#print axioms proved
end Go.Proofs.Ytjojflodhghdbaa.lawLogimmBack
