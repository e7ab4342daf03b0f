/- PROVED: InstOne returns true for every instruction, any two fields and any number; the arguments read behind the call as they read before. No condition. -/
import Derived.Test.YtopfaapcekiojaaInsG
import Derived.Handy
import Derived.ProofKit
import Derived.OpenShut
import Derived.Lib.SmallJoins
namespace Go.Proofs.Ytopfaapcekiojaa.lawInstOne
open Go.ChangeShapes Go.WideShapes Go.ChangeAt Go.RowKit Go.Sort Go.Joins Sym
set_option linter.unusedVariables false

def bdF (lo hi : Int) : List (Nat × Int × Int) := (8, lo, hi) :: bdN 11
theorem run_k : allK (fun k => allTrue (runF (lawCx (bdF k k) [begunS]) 300 6 [instS (.var 7), .p (.c (.int .i64 (.lit k))), numS 9, numS 10] [] 0)) 9 1 = true := by kernel_rfl
theorem run_lo : allTrue (runF (lawCx (bdF (-9223372036854775808) 0) [begunS]) 300 6 [instS (.var 7), numS 8, numS 9, numS 10] [] 0) = true := by kernel_rfl
theorem run_hi : allTrue (runF (lawCx (bdF 10 9223372036854775807) [begunS]) 300 6 [instS (.var 7), numS 8, numS 9, numS 10] [] 0) = true := by kernel_rfl
def lets (f o v : Int) : Nat → Int
  | 0 => f
  | 1 => o
  | 2 => v
  | _ => 0
theorem walk (y : Ins) (f o v : Int) (w : World) (h : y.wf) (hf : I64 f) (ho : I64 o) (hv : I64 v) : Calls Try.prog 6 #[y.val, .int .i64 f, .int .i64 o, .int .i64 v] w (Ret (.bool true) w) := by
  have hb : BdOk (bdN 11) (insI y (lets f o v)) := bd_all h fun i hi => by
    have : i = 0 ∨ i = 1 ∨ i = 2 := by omega
    rcases this with rfl | rfl | rfl
    · exact hf
    · exact ho
    · exact hv
  have hm : ∀ bd, ∀ p ∈ [begunS], SumOk (lawCx bd [begunS]) (insEnv y (lets f o v) (fun _ => false) w) p.1 p.2 := by
    intro bd p hp
    rcases List.mem_cons.1 hp with rfl | hp
    · exact begun_s rfl
    · cases hp
  have go : ∀ (a : SE) (lo hi : Int), a.int (insEnv y (lets f o v) (fun _ => false) w) = f → lo ≤ f → f ≤ hi → allTrue (runF (lawCx (bdF lo hi) [begunS]) 300 6 [instS (.var 7), .p (.c (.int .i64 a)), numS 9, numS 10] [] 0) = true → Calls Try.prog 6 #[y.val, .int .i64 f, .int .i64 o, .int .i64 v] w (Ret (.bool true) w) := by
    intro a lo hi ha h1 h2 hr
    exact law_run (bd_cons ⟨h1, h2⟩ hb) (hm _) (one_den (inst_den (op := .var 7) rfl _) (one_den (int_s ha) rfl)) hr
  refine by_field hf (fun k k1 k2 e => ?_) (fun h1 h2 => ?_) (fun h1 h2 => ?_)
  · exact go (.lit k) k k e.symm (by omega) (by omega) (allK_ok run_k k k1 (by omega))
  · exact go (.var 8) _ _ rfl h1 h2 run_lo
  · exact go (.var 8) _ _ rfl h1 h2 run_hi
theorem own : ownKnob Try.prog.godebug = none := by kernel_rfl
theorem laidOut : laidOutB Try.prog = true := by kernel_rfl
set_option maxRecDepth 100000 in
theorem lifted (os : Os) (started : os.Started) (H : Type) (enc : TypeId × Value → H) :
    ReturnsInHanded {} Try.checked os 6 .any (Rows.instOneSpec.pre6 enc Try.prog Try.f6 Rows.instOneRow.domain false) (Rows.instOneSpec.post enc Try.prog Try.f6 false true false false) := by
  refine returnsInHanded_of_change (C := Try.checked) own started (by kernel_rfl) Try.func6
    (ChangeSpec.witness6 (enc := enc) (C := Try.checked) false ⟨#[], #[.agg #[.int .i64 0, .bool false, .bool false, .int .i64 0, .int .i64 0, .int .i64 0, .int .i64 0, .int .i64 0, .int .i64 0, .int .i64 0], .int .i64 0, .int .i64 0, .int .i64 0], []⟩ 8 (by kernel_rfl) (by kernel_rfl) (by kernel_rfl) (by kernel_rfl)) ?_
  intro W base args ds gs before hval0 hW hcnd _
  have hval : ∀ (j : Nat) t v, Try.f6.params[j]? = some t → args[j]? = some v → Value.okWide Try.prog W .any base t v := hval0
  have hW' := hW
  obtain ⟨p, q, hA0, hV, rfl, hfz, hnd⟩ := hW
  have hA : DataW.TrodAll enc Try.prog W 0 (fun _ => true) true Try.f6.params.toList args.toList ds p := hA0
  rw [Try.params6] at hA hval
  obtain ⟨v0, vs0, d0, ds0, p0, q0, hargs, rfl, rfl, h0, r0⟩ := trodAll_cons hA
  obtain ⟨v1, vs1, d1, ds1, p1, q1, rfl, rfl, rfl, h1, r1⟩ := trodAll_cons r0
  obtain ⟨v2, vs2, d2, ds2, p2, q2, rfl, rfl, rfl, h2, r2⟩ := trodAll_cons r1
  obtain ⟨v3, vs3, d3, ds3, p3, q3, rfl, rfl, rfl, h3, r3⟩ := trodAll_cons r2
  obtain ⟨rfl, rfl, rfl⟩ := trodAll_nil r3
  obtain rfl : args = #[v0, v1, v2, v3] := by cases args; simp_all
  obtain ⟨rfl, rfl⟩ := trodVars_none hV
  have k0 := h0
  have k1 := h1
  have k2 := h2
  have k3 := h3
  have lt0 : ∀ x ∈ p0, x.block < W.heap.size := by obtain ⟨m, hm⟩ := k0; exact DataW.trod_lt m _ _ _ hm
  have lt1 : ∀ x ∈ p1, x.block < W.heap.size := by obtain ⟨m, hm⟩ := k1; exact DataW.trod_lt m _ _ _ hm
  have lt2 : ∀ x ∈ p2, x.block < W.heap.size := by obtain ⟨m, hm⟩ := k2; exact DataW.trod_lt m _ _ _ hm
  have lt3 : ∀ x ∈ p3, x.block < W.heap.size := by obtain ⟨m, hm⟩ := k3; exact DataW.trod_lt m _ _ _ hm
  obtain ⟨y0, rfl, b0⟩ := open_inst (hval 0 23 v0 rfl rfl) h0
  obtain ⟨a1, rfl, _, _, w1⟩ := open_int Try.underlying3 (hval 1 3 v1 rfl rfl) h1
  obtain ⟨a2, rfl, _, _, w2⟩ := open_int Try.underlying3 (hval 2 3 v2 rfl rfl) h2
  obtain ⟨a3, rfl, _, _, w3⟩ := open_int Try.underlying2 (hval 3 2 v3 rfl rfl) h3
  clear hA0 hval0
  refine (walk y0 a1 a2 a3 W b0 (i64_wf w1) (i64_wf w2) (i64_wf w3)).mono fun e W' ⟨he, bel⟩ => ?_
  subst he
  exact ⟨_, rfl, _, _, _, [], _, [], hW', trodAll_mk1 (shut_bool Try.underlying4 _), (trodAll_cons_mk (Below.trod laidOut (by kernel_rfl) (of_decide_eq_true (by kernel_rfl)) k0 bel lt0) (trodAll_cons_mk (Below.trod laidOut (by kernel_rfl) (of_decide_eq_true (by kernel_rfl)) k1 bel lt1) (trodAll_cons_mk (Below.trod laidOut (by kernel_rfl) (of_decide_eq_true (by kernel_rfl)) k2 bel lt2) (trodAll_cons_mk (Below.trod laidOut (by kernel_rfl) (of_decide_eq_true (by kernel_rfl)) k3 bel lt3) trodAll_mk0)))), rfl, bel.frame _, fun h => by cases h⟩

theorem proved : Rows.InstOneSaid :=
  OpenClaim.holds_of_wide 6 Try.f6 rfl rfl rfl rfl rfl rfl rfl ⟨rfl, rfl, rfl, rfl, rfl⟩ rfl rfl rfl rfl rfl (by kernel_rfl) Try.func6 (by kernel_rfl)
    (of_decide_eq_true (by kernel_rfl)) (by unfold Func.isWrapper; first | (rw [if_pos (by decide +kernel)]; kernel_rfl) | (rw [if_neg (by decide +kernel)]; exact ⟨rfl, rfl⟩))
    (fun os started H enc _ => lifted os started H enc)

#print axioms proved
end Go.Proofs.Ytopfaapcekiojaa.lawInstOne
