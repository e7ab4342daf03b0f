/- PROVED: InstFars returns true for every instruction, every class, wide or not, and every distance; the arguments read behind the call as they read before. No condition. -/
import Derived.Test.YtopfaapcekiojaaInsG
import Derived.Handy
import Derived.ProofKit
import Derived.OpenShut
import Derived.Lib.SmallJoins
namespace Go.Proofs.Ytopfaapcekiojaa.lawInstFars
open Go.ChangeShapes Go.WideShapes Go.ChangeAt Go.RowKit Go.Sort Go.Joins Sym
set_option linter.unusedVariables false

def rPat : List SV := [numS 8, .p (.c (.bool (.bvar 2)))]
def rRes : SV := .tup [.c (.int .i64 (.var 20)), .c (.int .i64 (.var 21)), .c (.bool (.bvar 3))]
noncomputable def farSums : Sums := [begunS, (27, orS rPat rRes tp_cooper_inst_Reach), (28, orS rPat rRes tp_cooper_cooperref04_Reach)]
theorem run_k : allK (fun k => allTrue (runF (lawCx (bdK k k 10) farSums) 300 7 (instS (.lit k) :: [numS 8, .p (.c (.bool (.bvar 2))), numS 9]) [] 0)) 33 0 = true := by kernel_rfl
theorem run_lo : allTrue (runF (lawCx (bdK (-9223372036854775808) (-1) 10) farSums) 300 7 (instS (.var 7) :: [numS 8, .p (.c (.bool (.bvar 2))), numS 9]) [] 0) = true := by kernel_rfl
theorem run_hi : allTrue (runF (lawCx (bdK 33 9223372036854775807 10) farSums) 300 7 (instS (.var 7) :: [numS 8, .p (.c (.bool (.bvar 2))), numS 9]) [] 0) = true := by kernel_rfl
def lets (op far p q : Int) : Nat → Int
  | 0 => op
  | 1 => far
  | 12 => p
  | 13 => q
  | _ => 0
def flags (wide s : Bool) : Nat → Bool
  | 0 => wide
  | 1 => s
  | _ => false
theorem walk (y : Ins) (op : Int) (wide : Bool) (far : Int) (w : World) (h : y.wf) (ho : I64 op) (hf : I64 far) : Calls Try.prog 7 #[y.val, .int .i64 op, .bool wide, .int .i64 far] w (Ret (.bool true) w) := by
  obtain ⟨p, q, s, hs⟩ := reach_same op ho wide
  refine law_by_class h (e := lets op far p q) (t := flags wide s) (n := 10) (fun i hi => ?_) (more := farSums) (rest := [numS 8, .p (.c (.bool (.bvar 2))), numS 9]) (restV := [.int .i64 op, .bool wide, .int .i64 far]) rfl ?_ run_k run_lo run_hi
  · have : i = 0 ∨ i = 1 := by omega
    rcases this with rfl | rfl
    · exact ho
    · exact hf
  · intro bd pp hp
    simp only [farSums, List.mem_cons, List.not_mem_nil, or_false] at hp
    rcases hp with rfl | rfl | rfl
    · exact begun_s rfl
    · exact or_s (pat_s (vals := [.int .i64 op, .bool wide]) (x := .tuple #[.int .i64 p, .int .i64 q, .bool s]) (fun _ => rfl) (fun _ => rfl) (fun w => (hs w).1)) (ok_cooper_cooperref04_Reach _ _ (insGood _ _ _ _) (fun _ => rfl) rfl _ reach_mem.1)
    · exact or_s (pat_s (vals := [.int .i64 op, .bool wide]) (x := .tuple #[.int .i64 p, .int .i64 q, .bool s]) (fun _ => rfl) (fun _ => rfl) (fun w => (hs w).2)) (ok_cooper_cooperref04_Reach _ _ (insGood _ _ _ _) (fun _ => rfl) rfl _ reach_mem.2)
theorem own : ownKnob Try.prog.godebug = none := by kernel_rfl
theorem laidOut : laidOutB Try.prog = true := by kernel_rfl
set_option maxRecDepth 100000 in
theorem lifted (os : Os) (started : os.Started) (H : Type) (enc : TypeId × Value → H) :
    ReturnsInHanded {} Try.checked os 7 .any (Rows.instFarsSpec.pre6 enc Try.prog Try.f7 Rows.instFarsRow.domain false) (Rows.instFarsSpec.post enc Try.prog Try.f7 false true false false) := by
  refine returnsInHanded_of_change (C := Try.checked) own started (by kernel_rfl) Try.func7
    (ChangeSpec.witness6 (enc := enc) (C := Try.checked) false ⟨#[], #[.agg #[.int .i64 0, .bool false, .bool false, .int .i64 0, .int .i64 0, .int .i64 0, .int .i64 0, .int .i64 0, .int .i64 0, .int .i64 0], .int .i64 0, .bool false, .int .i64 0], []⟩ 8 (by kernel_rfl) (by kernel_rfl) (by kernel_rfl) (by kernel_rfl)) ?_
  intro W base args ds gs before hval0 hW hcnd _
  have hval : ∀ (j : Nat) t v, Try.f7.params[j]? = some t → args[j]? = some v → Value.okWide Try.prog W .any base t v := hval0
  have hW' := hW
  obtain ⟨p, q, hA0, hV, rfl, hfz, hnd⟩ := hW
  have hA : DataW.TrodAll enc Try.prog W 0 (fun _ => true) true Try.f7.params.toList args.toList ds p := hA0
  rw [Try.params7] at hA hval
  obtain ⟨v0, vs0, d0, ds0, p0, q0, hargs, rfl, rfl, h0, r0⟩ := trodAll_cons hA
  obtain ⟨v1, vs1, d1, ds1, p1, q1, rfl, rfl, rfl, h1, r1⟩ := trodAll_cons r0
  obtain ⟨v2, vs2, d2, ds2, p2, q2, rfl, rfl, rfl, h2, r2⟩ := trodAll_cons r1
  obtain ⟨v3, vs3, d3, ds3, p3, q3, rfl, rfl, rfl, h3, r3⟩ := trodAll_cons r2
  obtain ⟨rfl, rfl, rfl⟩ := trodAll_nil r3
  obtain rfl : args = #[v0, v1, v2, v3] := by cases args; simp_all
  obtain ⟨rfl, rfl⟩ := trodVars_none hV
  have k0 := h0
  have k1 := h1
  have k2 := h2
  have k3 := h3
  have lt0 : ∀ x ∈ p0, x.block < W.heap.size := by obtain ⟨m, hm⟩ := k0; exact DataW.trod_lt m _ _ _ hm
  have lt1 : ∀ x ∈ p1, x.block < W.heap.size := by obtain ⟨m, hm⟩ := k1; exact DataW.trod_lt m _ _ _ hm
  have lt2 : ∀ x ∈ p2, x.block < W.heap.size := by obtain ⟨m, hm⟩ := k2; exact DataW.trod_lt m _ _ _ hm
  have lt3 : ∀ x ∈ p3, x.block < W.heap.size := by obtain ⟨m, hm⟩ := k3; exact DataW.trod_lt m _ _ _ hm
  obtain ⟨y0, rfl, b0⟩ := open_inst (hval 0 23 v0 rfl rfl) h0
  obtain ⟨a1, rfl, _, _, w1⟩ := open_int Try.underlying3 (hval 1 3 v1 rfl rfl) h1
  obtain ⟨a2, rfl, _, _⟩ := open_bool Try.underlying4 (hval 2 4 v2 rfl rfl) h2
  obtain ⟨a3, rfl, _, _, w3⟩ := open_int Try.underlying2 (hval 3 2 v3 rfl rfl) h3
  clear hA0 hval0
  refine (walk y0 a1 a2 a3 W b0 (i64_wf w1) (i64_wf w3)).mono fun e W' ⟨he, bel⟩ => ?_
  subst he
  exact ⟨_, rfl, _, _, _, [], _, [], hW', trodAll_mk1 (shut_bool Try.underlying4 _), (trodAll_cons_mk (Below.trod laidOut (by kernel_rfl) (of_decide_eq_true (by kernel_rfl)) k0 bel lt0) (trodAll_cons_mk (Below.trod laidOut (by kernel_rfl) (of_decide_eq_true (by kernel_rfl)) k1 bel lt1) (trodAll_cons_mk (Below.trod laidOut (by kernel_rfl) (of_decide_eq_true (by kernel_rfl)) k2 bel lt2) (trodAll_cons_mk (Below.trod laidOut (by kernel_rfl) (of_decide_eq_true (by kernel_rfl)) k3 bel lt3) trodAll_mk0)))), rfl, bel.frame _, fun h => by cases h⟩

theorem proved : Rows.InstFarsSaid :=
  OpenClaim.holds_of_wide 7 Try.f7 rfl rfl rfl rfl rfl rfl rfl ⟨rfl, rfl, rfl, rfl, rfl⟩ rfl rfl rfl rfl rfl (by kernel_rfl) Try.func7 (by kernel_rfl)
    (of_decide_eq_true (by kernel_rfl)) (by unfold Func.isWrapper; first | (rw [if_pos (by decide +kernel)]; kernel_rfl) | (rw [if_neg (by decide +kernel)]; exact ⟨rfl, rfl⟩))
    (fun os started H enc _ => lifted os started H enc)

#print axioms proved
end Go.Proofs.Ytopfaapcekiojaa.lawInstFars
