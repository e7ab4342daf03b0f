/- PROVED: BitsNumbers returns true for every number, width and turn; each argument reads behind the call as it read before. No condition. -/
import Derived.Test.YtjojflodhghdbaaLaw01L
import Derived.ProofKit
import Derived.OpenShut
import Derived.Lib.SmallJoins
namespace Go.Proofs.Ytjojflodhghdbaa.lawBitsNumbers
open Go.ChangeShapes Go.WideShapes Go.ChangeAt Go.RowKit Go.Sort Go.Joins
attribute [local go_sem] cell_gr frozen_gr
set_option linter.unusedVariables false

theorem walk (v n b : Int) (w : World) (hv : U64 v) (hn : I64 n) (hb : I64 b) : Calls Try.prog 4 #[.int .u64 v, .int .i64 n, .int .i64 b] w (Ret (.bool true) w) := by
  have c1 := fun W => sign_any v n W hv hn
  have c2 := fun W => rsign_any v n W hv hn
  have c3 := fun W => turn_any v n b W hv hn hb
  have c4 := fun W => rturn_any v n b W hv hn hb
  have c5 := fun W => ones_any b W hb
  have c6 := fun W => rones_any b W hb
  have hB : Below w.heap.size w w := Below.refl _ _
  go_enter Try.func4, Try.ntmps4
  go_wp2_with (first
    | (go_at_call 14; refine (live_any _).mono ?_; rintro e w1 ⟨rfl, hb⟩; replace hB := bthen hB hb hB.size)
    | (go_at_call 19; refine (c1 _).mono ?_; rintro e w1 ⟨rfl, hb⟩; replace hB := bthen hB hb hB.size)
    | (go_at_call 20; refine (c2 _).mono ?_; rintro e w1 ⟨rfl, hb⟩; replace hB := bthen hB hb hB.size)
    | (go_at_call 21; refine (c3 _).mono ?_; rintro e w1 ⟨rfl, hb⟩; replace hB := bthen hB hb hB.size)
    | (go_at_call 22; refine (c4 _).mono ?_; rintro e w1 ⟨rfl, hb⟩; replace hB := bthen hB hb hB.size)
    | (go_at_call 23; refine (c5 _).mono ?_; rintro e w1 ⟨rfl, hb⟩; replace hB := bthen hB hb hB.size)
    | (go_at_call 24; refine (c6 _).mono ?_; rintro e w1 ⟨rfl, hb⟩; replace hB := bthen hB hb hB.size)
    | (go_at_call 25; refine (fits_any _ _ _ _ (i64w v) hn).mono ?_; rintro e w1 ⟨rfl, hb⟩; replace hB := bthen hB hb hB.size)
    | (go_at_call 26; refine (rfits_any _ _ _ _ (i64w v) hn).mono ?_; rintro e w1 ⟨rfl, hb⟩; replace hB := bthen hB hb hB.size))
  go_ret
  exact ⟨rfl, hB⟩

theorem own : ownKnob Try.prog.godebug = none := by kernel_rfl
theorem laidOut : laidOutB Try.prog = true := by kernel_rfl
set_option maxRecDepth 100000 in
theorem lifted (os : Os) (started : os.Started) (H : Type) (enc : TypeId × Value → H) :
    ReturnsInHanded {} Try.checked os 4 .any (Rows.bitsNumbersSpec.pre6 enc Try.prog Try.f4 Rows.bitsNumbersRow.domain false) (Rows.bitsNumbersSpec.post enc Try.prog Try.f4 false true false false) := by
  refine returnsInHanded_of_change (C := Try.checked) own started (by kernel_rfl) Try.func4
    (ChangeSpec.witness6 (enc := enc) (C := Try.checked) false ⟨#[], #[.int .u64 0, .int .i64 0, .int .i64 0], []⟩ 8 (by kernel_rfl) (by kernel_rfl) (by kernel_rfl) (by kernel_rfl)) ?_
  intro W base args ds gs before hval0 hW hcnd _
  have hval : ∀ (j : Nat) t v, Try.f4.params[j]? = some t → args[j]? = some v → Value.okWide Try.prog W .any base t v := hval0
  have hW' := hW
  obtain ⟨p, q, hA0, hV, rfl, hfz, hnd⟩ := hW
  have hA : DataW.TrodAll enc Try.prog W 0 (fun _ => true) true Try.f4.params.toList args.toList ds p := hA0
  rw [Try.params4] at hA hval
  obtain ⟨v0, vs0, d0, ds0, p0, q0, hargs, rfl, rfl, h0, r0⟩ := trodAll_cons hA
  obtain ⟨v1, vs1, d1, ds1, p1, q1, rfl, rfl, rfl, h1, r1⟩ := trodAll_cons r0
  obtain ⟨v2, vs2, d2, ds2, p2, q2, rfl, rfl, rfl, h2, r2⟩ := trodAll_cons r1
  obtain ⟨rfl, rfl, rfl⟩ := trodAll_nil r2
  obtain rfl : args = #[v0, v1, v2] := by cases args; simp_all
  obtain ⟨rfl, rfl⟩ := trodVars_none hV
  have k0 := h0
  have k1 := h1
  have k2 := h2
  have lt0 : ∀ x ∈ p0, x.block < W.heap.size := by obtain ⟨m, hm⟩ := k0; exact DataW.trod_lt m _ _ _ hm
  have lt1 : ∀ x ∈ p1, x.block < W.heap.size := by obtain ⟨m, hm⟩ := k1; exact DataW.trod_lt m _ _ _ hm
  have lt2 : ∀ x ∈ p2, x.block < W.heap.size := by obtain ⟨m, hm⟩ := k2; exact DataW.trod_lt m _ _ _ hm
  obtain ⟨a0, rfl, _, _, w0⟩ := open_int Try.underlying31 (hval 0 31 v0 rfl rfl) h0
  obtain ⟨a1, rfl, _, _, w1⟩ := open_int Try.underlying3 (hval 1 3 v1 rfl rfl) h1
  obtain ⟨a2, rfl, _, _, w2⟩ := open_int Try.underlying3 (hval 2 3 v2 rfl rfl) h2
  clear hA0 hval0
  refine (walk a0 a1 a2 W (u64_wf w0) (i64_wf w1) (i64_wf w2)).mono fun e W' ⟨he, bel⟩ => ?_
  subst he
  exact ⟨_, rfl, _, _, _, [], _, [], hW', trodAll_mk1 (shut_bool Try.underlying4 _), (trodAll_cons_mk (Below.trod laidOut (by kernel_rfl) (of_decide_eq_true (by kernel_rfl)) k0 bel lt0) (trodAll_cons_mk (Below.trod laidOut (by kernel_rfl) (of_decide_eq_true (by kernel_rfl)) k1 bel lt1) (trodAll_cons_mk (Below.trod laidOut (by kernel_rfl) (of_decide_eq_true (by kernel_rfl)) k2 bel lt2) trodAll_mk0))), rfl, bel.frame _, fun h => by cases h⟩

theorem proved : Rows.BitsNumbersSaid :=
  OpenClaim.holds_of_wide 4 Try.f4 rfl rfl rfl rfl rfl rfl rfl ⟨rfl, rfl, rfl, rfl, rfl⟩ rfl rfl rfl rfl rfl (by kernel_rfl) Try.func4 (by kernel_rfl)
    (of_decide_eq_true (by kernel_rfl)) (by unfold Func.isWrapper; first | (rw [if_pos (by decide +kernel)]; kernel_rfl) | (rw [if_neg (by decide +kernel)]; exact ⟨rfl, rfl⟩))
    (fun os started H enc _ => lifted os started H enc)
#print axioms proved
end Go.Proofs.Ytjojflodhghdbaa.lawBitsNumbers
