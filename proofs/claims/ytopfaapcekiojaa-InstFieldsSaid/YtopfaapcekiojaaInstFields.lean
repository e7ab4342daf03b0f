/- PROVED: InstFields returns true for every instruction, every field and every number; the arguments read behind the call as they read before. No condition. -/
import Derived.Test.YtopfaapcekiojaaInsG
import Derived.Handy
import Derived.ProofKit
import Derived.OpenShut
import Derived.Lib.SmallJoins
namespace Go.Proofs.Ytopfaapcekiojaa.lawInstFields
open Go.ChangeShapes Go.WideShapes Go.ChangeAt Go.RowKit Go.Sort Go.Joins Sym
set_option linter.unusedVariables false

def cRes : SV := .p (.agg [.int .i64 (.var 19), .bool (.bvar 2), .bool (.bvar 3), .int .i64 (.var 20), .int .i64 (.var 21), .int .i64 (.var 22), .int .i64 (.var 23), .int .i64 (.var 24), .int .i64 (.var 25), .int .i64 (.var 26)])
def fldSums : Sums := [begunS, (17, patS [instS (.var 7)] cRes), (24, patS [instS (.var 7)] cRes)]
def bdF (lo hi : Int) : List (Nat × Int × Int) := (8, lo, hi) :: bdN 10
theorem run_k : allK (fun k => allTrue (runF (lawCx (bdF k k) fldSums) 300 5 [instS (.var 7), .p (.c (.int .i64 (.lit k))), numS 9] [] 0)) 9 1 = true := by kernel_rfl
theorem run_lo : allTrue (runF (lawCx (bdF (-9223372036854775808) 0) fldSums) 300 5 [instS (.var 7), numS 8, numS 9] [] 0) = true := by kernel_rfl
theorem run_hi : allTrue (runF (lawCx (bdF 10 9223372036854775807) fldSums) 300 5 [instS (.var 7), numS 8, numS 9] [] 0) = true := by kernel_rfl
def lets (f v : Int) (c : Ins) : Nat → Int
  | 0 => f
  | 1 => v
  | 11 => c.op
  | 12 => c.rd
  | 13 => c.rn
  | 14 => c.rm
  | 15 => c.ra
  | 16 => c.a
  | 17 => c.b
  | 18 => c.c
  | _ => 0
def flags (c : Ins) : Nat → Bool
  | 0 => c.x
  | 1 => c.s
  | _ => false
theorem walk (y : Ins) (f v : Int) (w : World) (h : y.wf) (hf : I64 f) (hv : I64 v) : Calls Try.prog 5 #[y.val, .int .i64 f, .int .i64 v] w (Ret (.bool true) w) := by
  obtain ⟨c, hc⟩ := clean_same y h
  have hb : BdOk (bdN 10) (insI y (lets f v c)) := bd_all h fun i hi => by
    have : i = 0 ∨ i = 1 := by omega
    rcases this with rfl | rfl
    · exact hf
    · exact hv
  have hm : ∀ bd, ∀ p ∈ fldSums, SumOk (lawCx bd fldSums) (insEnv y (lets f v c) (flags c) w) p.1 p.2 := by
    intro bd p hp
    simp only [fldSums, List.mem_cons, List.not_mem_nil, or_false] at hp
    rcases hp with rfl | rfl | rfl
    · exact begun_s rfl
    · exact pat_s (vals := [y.val]) (x := c.val) (fun _ => one_den (inst_den (op := .var 7) rfl _) rfl) (fun _ => rfl) (fun w => (hc w).1)
    · exact pat_s (vals := [y.val]) (x := c.val) (fun _ => one_den (inst_den (op := .var 7) rfl _) rfl) (fun _ => rfl) (fun w => (hc w).2)
  have go : ∀ (a : SE) (lo hi : Int), a.int (insEnv y (lets f v c) (flags c) w) = f → lo ≤ f → f ≤ hi → allTrue (runF (lawCx (bdF lo hi) fldSums) 300 5 [instS (.var 7), .p (.c (.int .i64 a)), numS 9] [] 0) = true → Calls Try.prog 5 #[y.val, .int .i64 f, .int .i64 v] w (Ret (.bool true) w) := by
    intro a lo hi ha h1 h2 hr
    exact law_run (bd_cons ⟨h1, h2⟩ hb) (hm _) (one_den (inst_den (op := .var 7) rfl _) (one_den (int_s ha) rfl)) hr
  refine by_field hf (fun k k1 k2 e => ?_) (fun h1 h2 => ?_) (fun h1 h2 => ?_)
  · exact go (.lit k) k k e.symm (by omega) (by omega) (allK_ok run_k k k1 (by omega))
  · exact go (.var 8) _ _ rfl h1 h2 run_lo
  · exact go (.var 8) _ _ rfl h1 h2 run_hi
theorem own : ownKnob Try.prog.godebug = none := by kernel_rfl
theorem laidOut : laidOutB Try.prog = true := by kernel_rfl
set_option maxRecDepth 100000 in
theorem lifted (os : Os) (started : os.Started) (H : Type) (enc : TypeId × Value → H) :
    ReturnsInHanded {} Try.checked os 5 .any (Rows.instFieldsSpec.pre6 enc Try.prog Try.f5 Rows.instFieldsRow.domain false) (Rows.instFieldsSpec.post enc Try.prog Try.f5 false true false false) := by
  refine returnsInHanded_of_change (C := Try.checked) own started (by kernel_rfl) Try.func5
    (ChangeSpec.witness6 (enc := enc) (C := Try.checked) false ⟨#[], #[.agg #[.int .i64 0, .bool false, .bool false, .int .i64 0, .int .i64 0, .int .i64 0, .int .i64 0, .int .i64 0, .int .i64 0, .int .i64 0], .int .i64 0, .int .i64 0], []⟩ 8 (by kernel_rfl) (by kernel_rfl) (by kernel_rfl) (by kernel_rfl)) ?_
  intro W base args ds gs before hval0 hW hcnd _
  have hval : ∀ (j : Nat) t v, Try.f5.params[j]? = some t → args[j]? = some v → Value.okWide Try.prog W .any base t v := hval0
  have hW' := hW
  obtain ⟨p, q, hA0, hV, rfl, hfz, hnd⟩ := hW
  have hA : DataW.TrodAll enc Try.prog W 0 (fun _ => true) true Try.f5.params.toList args.toList ds p := hA0
  rw [Try.params5] at hA hval
  obtain ⟨v0, vs0, d0, ds0, p0, q0, hargs, rfl, rfl, h0, r0⟩ := trodAll_cons hA
  obtain ⟨v1, vs1, d1, ds1, p1, q1, rfl, rfl, rfl, h1, r1⟩ := trodAll_cons r0
  obtain ⟨v2, vs2, d2, ds2, p2, q2, rfl, rfl, rfl, h2, r2⟩ := trodAll_cons r1
  obtain ⟨rfl, rfl, rfl⟩ := trodAll_nil r2
  obtain rfl : args = #[v0, v1, v2] := by cases args; simp_all
  obtain ⟨rfl, rfl⟩ := trodVars_none hV
  have k0 := h0
  have k1 := h1
  have k2 := h2
  have lt0 : ∀ x ∈ p0, x.block < W.heap.size := by obtain ⟨m, hm⟩ := k0; exact DataW.trod_lt m _ _ _ hm
  have lt1 : ∀ x ∈ p1, x.block < W.heap.size := by obtain ⟨m, hm⟩ := k1; exact DataW.trod_lt m _ _ _ hm
  have lt2 : ∀ x ∈ p2, x.block < W.heap.size := by obtain ⟨m, hm⟩ := k2; exact DataW.trod_lt m _ _ _ hm
  obtain ⟨y0, rfl, b0⟩ := open_inst (hval 0 23 v0 rfl rfl) h0
  obtain ⟨a1, rfl, _, _, w1⟩ := open_int Try.underlying3 (hval 1 3 v1 rfl rfl) h1
  obtain ⟨a2, rfl, _, _, w2⟩ := open_int Try.underlying2 (hval 2 2 v2 rfl rfl) h2
  clear hA0 hval0
  refine (walk y0 a1 a2 W b0 (i64_wf w1) (i64_wf w2)).mono fun e W' ⟨he, bel⟩ => ?_
  subst he
  exact ⟨_, rfl, _, _, _, [], _, [], hW', trodAll_mk1 (shut_bool Try.underlying4 _), (trodAll_cons_mk (Below.trod laidOut (by kernel_rfl) (of_decide_eq_true (by kernel_rfl)) k0 bel lt0) (trodAll_cons_mk (Below.trod laidOut (by kernel_rfl) (of_decide_eq_true (by kernel_rfl)) k1 bel lt1) (trodAll_cons_mk (Below.trod laidOut (by kernel_rfl) (of_decide_eq_true (by kernel_rfl)) k2 bel lt2) trodAll_mk0))), rfl, bel.frame _, fun h => by cases h⟩

theorem proved : Rows.InstFieldsSaid :=
  OpenClaim.holds_of_wide 5 Try.f5 rfl rfl rfl rfl rfl rfl rfl ⟨rfl, rfl, rfl, rfl, rfl⟩ rfl rfl rfl rfl rfl (by kernel_rfl) Try.func5 (by kernel_rfl)
    (of_decide_eq_true (by kernel_rfl)) (by unfold Func.isWrapper; first | (rw [if_pos (by decide +kernel)]; kernel_rfl) | (rw [if_neg (by decide +kernel)]; exact ⟨rfl, rfl⟩))
    (fun os started H enc _ => lifted os started H enc)

#print axioms proved
end Go.Proofs.Ytopfaapcekiojaa.lawInstFields
