/- PROVED: InstChecks returns true for every instruction, every class and any number of limits; the arguments read behind the call as they read before. No condition. -/
import Derived.Test.YtopfaapcekiojaaInsK1
import Derived.Test.YtopfaapcekiojaaInsK3
import Derived.Test.YtopfaapcekiojaaInsK4
import Derived.Handy
import Derived.ProofKit
import Derived.OpenShut
import Derived.Lib.SmallJoins
namespace Go.Proofs.Ytopfaapcekiojaa.lawInstChecks
open Go.ChangeShapes Go.WideShapes Go.ChangeAt Go.RowKit Go.Sort Go.Joins Sym
set_option linter.unusedVariables false

theorem run_k (k : Nat) (h : k < 33) : runK k = true := by
  have hc : (0 ≤ k ∧ k < 3) ∨ (3 ≤ k ∧ k < 6) ∨ (6 ≤ k ∧ k < 9) ∨ (9 ≤ k ∧ k < 12) ∨ (12 ≤ k ∧ k < 15) ∨ (15 ≤ k ∧ k < 18) ∨ (18 ≤ k ∧ k < 21) ∨ (21 ≤ k ∧ k < 24) ∨ (24 ≤ k ∧ k < 27) ∨ (27 ≤ k ∧ k < 30) ∨ (30 ≤ k ∧ k < 33) := by omega
  rcases hc with h | h | h | h | h | h | h | h | h | h | h
  · exact allK_ok run_0 k h.1 (by omega)
  · exact allK_ok run_1 k h.1 (by omega)
  · exact allK_ok run_2 k h.1 (by omega)
  · exact allK_ok run_3 k h.1 (by omega)
  · exact allK_ok run_4 k h.1 (by omega)
  · exact allK_ok run_5 k h.1 (by omega)
  · exact allK_ok run_6 k h.1 (by omega)
  · exact allK_ok run_7 k h.1 (by omega)
  · exact allK_ok run_8 k h.1 (by omega)
  · exact allK_ok run_9 k h.1 (by omega)
  · exact allK_ok run_10 k h.1 (by omega)
theorem run_lo : allTrue (runF (lawCx (bdF (-9223372036854775808) (-1)) ckSums) 300 4 [instS (.var 7), numS 8, mostS] [] 0) = true := by kernel_rfl
theorem run_hi : allTrue (runF (lawCx (bdF 33 9223372036854775807) ckSums) 300 4 [instS (.var 7), numS 8, mostS] [] 0) = true := by kernel_rfl
def lets (op m z : Int) : Nat → Int
  | 0 => op
  | 1 => m
  | 2 => z
  | _ => 0
theorem walk (y : Ins) (op m : Int) (w : World) (h : y.wf) (ho : I64 op) (hm8 : 0 ≤ m ∧ m < 256) : Calls Try.prog 4 #[y.val, .int .i64 op, .int .u8 m] w (Ret (.bool true) w) := by
  obtain ⟨z, hz⟩ := check_same y h
  have hb : BdOk (bdN 8) (insI y (lets op m z)) := bd_all h fun i hi => by omega
  have hm : ∀ bd, ∀ p ∈ ckSums, SumOk (lawCx bd ckSums) (insEnv y (lets op m z) (fun _ => false) w) p.1 p.2 := by
    intro bd p hp
    simp only [ckSums, List.mem_cons, List.not_mem_nil, or_false] at hp
    rcases hp with rfl | rfl | rfl
    · exact begun_s rfl
    · exact pat_s (vals := [y.val]) (x := .int .i64 z) (fun _ => one_den (inst_den (op := .var 7) rfl _) rfl) (fun _ => rfl) (fun w => (hz w).1)
    · exact pat_s (vals := [y.val]) (x := .int .i64 z) (fun _ => one_den (inst_den (op := .var 7) rfl _) rfl) (fun _ => rfl) (fun w => (hz w).2)
  have go : ∀ (a : SE) (lo hi : Int), a.int (insEnv y (lets op m z) (fun _ => false) w) = op → lo ≤ op → op ≤ hi → allTrue (runF (lawCx (bdF lo hi) ckSums) 300 4 [instS (.var 7), .p (.c (.int .i64 a)), mostS] [] 0) = true → Calls Try.prog 4 #[y.val, .int .i64 op, .int .u8 m] w (Ret (.bool true) w) := by
    intro a lo hi ha h1 h2 hr
    exact law_run (bd_cons ⟨hm8.1, by show m ≤ 255; omega⟩ (bd_cons ⟨h1, h2⟩ hb)) (hm _) (one_den (inst_den (op := .var 7) rfl _) (one_den (int_s ha) rfl)) hr
  refine by_class ho (fun k hk e => ?_) (fun h1 => ?_) (fun h1 => ?_)
  · exact go (.lit k) k k e.symm (by omega) (by omega) (run_k k hk)
  · exact go (.var 8) _ _ rfl (i64_bd ho).1 h1 run_lo
  · exact go (.var 8) _ _ rfl h1 (i64_bd ho).2 run_hi
theorem own : ownKnob Try.prog.godebug = none := by kernel_rfl
theorem laidOut : laidOutB Try.prog = true := by kernel_rfl
set_option maxRecDepth 100000 in
theorem lifted (os : Os) (started : os.Started) (H : Type) (enc : TypeId × Value → H) :
    ReturnsInHanded {} Try.checked os 4 .any (Rows.instChecksSpec.pre6 enc Try.prog Try.f4 Rows.instChecksRow.domain false) (Rows.instChecksSpec.post enc Try.prog Try.f4 false true false false) := by
  refine returnsInHanded_of_change (C := Try.checked) own started (by kernel_rfl) Try.func4
    (ChangeSpec.witness6 (enc := enc) (C := Try.checked) false ⟨#[], #[.agg #[.int .i64 0, .bool false, .bool false, .int .i64 0, .int .i64 0, .int .i64 0, .int .i64 0, .int .i64 0, .int .i64 0, .int .i64 0], .int .i64 0, .int .u8 0], []⟩ 8 (by kernel_rfl) (by kernel_rfl) (by kernel_rfl) (by kernel_rfl)) ?_
  intro W base args ds gs before hval0 hW hcnd _
  have hval : ∀ (j : Nat) t v, Try.f4.params[j]? = some t → args[j]? = some v → Value.okWide Try.prog W .any base t v := hval0
  have hW' := hW
  obtain ⟨p, q, hA0, hV, rfl, hfz, hnd⟩ := hW
  have hA : DataW.TrodAll enc Try.prog W 0 (fun _ => true) true Try.f4.params.toList args.toList ds p := hA0
  rw [Try.params4] at hA hval
  obtain ⟨v0, vs0, d0, ds0, p0, q0, hargs, rfl, rfl, h0, r0⟩ := trodAll_cons hA
  obtain ⟨v1, vs1, d1, ds1, p1, q1, rfl, rfl, rfl, h1, r1⟩ := trodAll_cons r0
  obtain ⟨v2, vs2, d2, ds2, p2, q2, rfl, rfl, rfl, h2, r2⟩ := trodAll_cons r1
  obtain ⟨rfl, rfl, rfl⟩ := trodAll_nil r2
  obtain rfl : args = #[v0, v1, v2] := by cases args; simp_all
  obtain ⟨rfl, rfl⟩ := trodVars_none hV
  have k0 := h0
  have k1 := h1
  have k2 := h2
  have lt0 : ∀ x ∈ p0, x.block < W.heap.size := by obtain ⟨m, hm⟩ := k0; exact DataW.trod_lt m _ _ _ hm
  have lt1 : ∀ x ∈ p1, x.block < W.heap.size := by obtain ⟨m, hm⟩ := k1; exact DataW.trod_lt m _ _ _ hm
  have lt2 : ∀ x ∈ p2, x.block < W.heap.size := by obtain ⟨m, hm⟩ := k2; exact DataW.trod_lt m _ _ _ hm
  obtain ⟨y0, rfl, b0⟩ := open_inst (hval 0 23 v0 rfl rfl) h0
  obtain ⟨a1, rfl, _, _, w1⟩ := open_int Try.underlying3 (hval 1 3 v1 rfl rfl) h1
  obtain ⟨a2, rfl, _, _, w2⟩ := open_int Try.underlying5 (hval 2 5 v2 rfl rfl) h2
  clear hA0 hval0
  refine (walk y0 a1 a2 W b0 (i64_wf w1) (u8_wf w2)).mono fun e W' ⟨he, bel⟩ => ?_
  subst he
  exact ⟨_, rfl, _, _, _, [], _, [], hW', trodAll_mk1 (shut_bool Try.underlying4 _), (trodAll_cons_mk (Below.trod laidOut (by kernel_rfl) (of_decide_eq_true (by kernel_rfl)) k0 bel lt0) (trodAll_cons_mk (Below.trod laidOut (by kernel_rfl) (of_decide_eq_true (by kernel_rfl)) k1 bel lt1) (trodAll_cons_mk (Below.trod laidOut (by kernel_rfl) (of_decide_eq_true (by kernel_rfl)) k2 bel lt2) trodAll_mk0))), rfl, bel.frame _, fun h => by cases h⟩

theorem proved : Rows.InstChecksSaid :=
  OpenClaim.holds_of_wide 4 Try.f4 rfl rfl rfl rfl rfl rfl rfl ⟨rfl, rfl, rfl, rfl, rfl⟩ rfl rfl rfl rfl rfl (by kernel_rfl) Try.func4 (by kernel_rfl)
    (of_decide_eq_true (by kernel_rfl)) (by unfold Func.isWrapper; first | (rw [if_pos (by decide +kernel)]; kernel_rfl) | (rw [if_neg (by decide +kernel)]; exact ⟨rfl, rfl⟩))
    (fun os started H enc _ => lifted os started H enc)

#print axioms proved
end Go.Proofs.Ytopfaapcekiojaa.lawInstChecks
