/- PROVED: DecBack returns true for every word and every instruction; the arguments read behind the call as they read before. No condition. -/
import Derived.Test.YtopfaapcekiojaaGreatDecI
import Derived.Handy
import Derived.ProofKit
import Derived.OpenShut
import Derived.Lib.SmallJoins
namespace Go.Proofs.YtopfaapcekiojaaGreat.lawDecBack
open Go.ChangeShapes Go.WideShapes Go.ChangeAt Go.RowKit Go.Sort Go.Joins Sym
set_option linter.unusedVariables false

def cellsT : List SC := [.int .i64 (.var 17), .bool (.bvar 2), .bool (.bvar 3), .int .i64 (.var 10), .int .i64 (.var 11), .int .i64 (.var 12), .int .i64 (.var 13), .int .i64 (.var 14), .int .i64 (.var 15), .int .i64 (.var 16)]
def letE (a z : Int) (y : Ins) (b u : Int) : Nat → Int
  | 0 => a | 1 => z | 2 => y.rd | 3 => y.rn | 4 => y.rm | 5 => y.ra | 6 => y.a | 7 => y.b | 8 => y.c | 9 => y.op | 10 => b | 11 => u | _ => 0
def letB (y : Ins) : Nat → Bool
  | 0 => y.x | 1 => y.s | _ => false
def wS : SV := .p (.c (.int .u32 (.var 8)))
def vS : SV := .p (.c (.int .u32 (.var 18)))
def when (c : Bool) (l : List (List SV × SV)) : List (List SV × SV) := match c with
  | true => l
  | false => []
noncomputable def bSums (c1 c2 : Bool) : Sums := [(10, patS [] (.p (.c (.bool .tt)))), (8, patsS (([wS], .tup [.agg cellsT, .c (.int .i64 (.var 9))]) :: when c2 [([vS], .tup [.agg (cellsI (.var 7)), .c (.int .i64 (.lit 0))])])),
  (23, patsS (([instS (.var 7)], .tup [.c (.int .u32 (.var 18)), .c (.int .i64 (.var 19))]) :: when c1 [([.p (.agg cellsT)], .tup [.c (.int .u32 (.var 8)), .c (.int .i64 (.lit 0))])])), (27, patsS (when c1 [([.p (.agg cellsT)], .p (.c (.int .i64 (.lit 0))))]))]
def axB (c1 c2 : Bool) : List (SE × Bool) := [(.bin .eq (.var 9) (.lit 0), c1), (.bin .eq (.var 19) (.lit 0), c2)]
noncomputable def bCx (c1 c2 : Bool) : Ctx := { P := Tryz.prog, bd := [], fb := [], sums := bSums c1 c2, ax := axB c1 c2 }
noncomputable def runB (c1 c2 : Bool) : Bool := allTrue (runF (bCx c1 c2) 300 7 [wS, instS (.var 7)] [] 0)
theorem run_tt : runB true true = true := by kernel_rfl
theorem run_tf : runB true false = true := by kernel_rfl
theorem run_ft : runB false true = true := by kernel_rfl
theorem run_ff : runB false false = true := by kernel_rfl
theorem eq_b {a : Int} {c : Bool} (h : (a = 0) = (c = true)) : (a == 0) = c := by
  cases c with
  | true => have : a = 0 := by rw [h]
            rw [this]; rfl
  | false => have : ¬ a = 0 := by rw [h]; simp
             simpa using this
theorem walk (a : Int) (x : Ins) (w : World) (ha : U32 a) (hx : x.wf) : Calls Tryz.prog 7 #[.int .u32 a, x.val] w (Ret (.bool true) w) := by
  obtain ⟨v, z, uv, ev, _, _, dv⟩ := enc_two x hx
  have first : ∃ (y : Ins) (e1 : Int), (∀ W, Calls Tryz.prog 8 #[.int .u32 a] W (Ret (.tuple #[y.val, .int .i64 e1]) W)) ∧ (e1 = 0 → (∀ W, Calls Tryz.prog 23 #[y.val] W (Ret (.tuple #[.int .u32 a, .int .i64 0]) W)) ∧ ∀ W, Calls Tryz.prog 27 #[y.val] W (Ret (.int .i64 0) W)) := by
    rcases decode_one a ha with ⟨y, hy, _, _, d, e⟩ | d
    · refine ⟨y, 0, d, fun _ => ⟨e, ?_⟩⟩
      obtain ⟨v', z', _, e', _, c', _⟩ := enc_two y hy
      obtain ⟨rfl, rfl⟩ := enc_inj e e'
      exact c'
    · exact ⟨y0, 4, d, fun h => absurd h (by decide)⟩
  obtain ⟨y, e1, hd, he⟩ := first
  have go : ∀ c1 c2 : Bool, (e1 = 0) = (c1 = true) → (z = 0) = (c2 = true) → runB c1 c2 = true → Calls Tryz.prog 7 #[.int .u32 a, x.val] w (Ret (.bool true) w) := by
    intro c1 c2 h1 h2 hr
    unfold runB at hr
    have ok : (bCx c1 c2).Ok (encEnv x (letE a e1 y v z) (letB y) w) := by
      refine ⟨(by intro i l h e; cases e), (by intro i l h e; cases e), fun _ => rfl, insM, ?_⟩
      intro p hp
      replace hp : p ∈ axB c1 c2 := hp
      simp only [axB, List.mem_cons, List.not_mem_nil, or_false] at hp
      rcases hp with rfl | rfl
      · exact eq_b h1
      · exact eq_b h2
    refine runF_true (cx := bCx c1 c2) ok (sums_of ?_) insM rfl rfl (args := [wS, instS (.var 7)]) (vals := [.int .u32 a, x.val]) rfl hr
    intro p hp
    replace hp : p ∈ bSums c1 c2 := hp
    simp only [bSums, List.mem_cons, List.not_mem_nil, or_false] at hp
    rcases hp with rfl | rfl | rfl | rfl
    · exact pat_s (vals := []) (x := .bool true) (fun β => rfl) (fun β => rfl) begun_any
    · refine pats_s fun p hp => ?_
      rcases List.mem_cons.1 hp with rfl | hp
      · exact pat_s (vals := [.int .u32 a]) (x := .tuple #[y.val, .int .i64 e1]) (fun β => rfl) (fun β => rfl) hd
      · cases c2 with
        | false => cases hp
        | true =>
          replace hp : p ∈ [([vS], SV.tup [.agg (cellsI (.var 7)), .c (.int .i64 (.lit 0))])] := hp
          simp only [List.mem_cons, List.not_mem_nil, or_false] at hp
          subst hp
          exact pat_s (vals := [.int .u32 v]) (x := .tuple #[x.val, .int .i64 0]) (fun β => rfl) (fun β => rfl) (dv (by rw [h2])).2.2.1.2
    · refine pats_s fun p hp => ?_
      rcases List.mem_cons.1 hp with rfl | hp
      · exact pat_s (vals := [x.val]) (x := .tuple #[.int .u32 v, .int .i64 z]) (fun β => rfl) (fun β => rfl) ev
      · cases c1 with
        | false => cases hp
        | true =>
          replace hp : p ∈ [([SV.p (.agg cellsT)], SV.tup [.c (.int .u32 (.var 8)), .c (.int .i64 (.lit 0))])] := hp
          simp only [List.mem_cons, List.not_mem_nil, or_false] at hp
          subst hp
          exact pat_s (vals := [y.val]) (x := .tuple #[.int .u32 a, .int .i64 0]) (fun β => rfl) (fun β => rfl) (he (by rw [h1])).1
    · refine pats_s fun p hp => ?_
      cases c1 with
      | false => cases hp
      | true =>
        replace hp : p ∈ [([SV.p (.agg cellsT)], SV.p (.c (.int .i64 (.lit 0))))] := hp
        simp only [List.mem_cons, List.not_mem_nil, or_false] at hp
        subst hp
        exact pat_s (vals := [y.val]) (x := .int .i64 0) (fun β => rfl) (fun β => rfl) (he (by rw [h1])).2
  by_cases h1 : e1 = 0
  · by_cases h2 : z = 0
    · exact go true true (by simp [h1]) (by simp [h2]) run_tt
    · exact go true false (by simp [h1]) (by simp [h2]) run_tf
  · by_cases h2 : z = 0
    · exact go false true (by simp [h1]) (by simp [h2]) run_ft
    · exact go false false (by simp [h1]) (by simp [h2]) run_ff
theorem own : ownKnob Tryz.prog.godebug = none := by kernel_rfl
theorem laidOut : laidOutB Tryz.prog = true := by kernel_rfl
set_option maxRecDepth 100000 in
theorem lifted (os : Os) (started : os.Started) (H : Type) (enc : TypeId × Value → H) :
    ReturnsInHanded {} Tryz.checked os 7 .any (Rows.decBackSpec.pre6 enc Tryz.prog Tryz.f7 Rows.decBackRow.domain false) (Rows.decBackSpec.post enc Tryz.prog Tryz.f7 false true false false) := by
  refine returnsInHanded_of_change (C := Tryz.checked) own started (by kernel_rfl) Tryz.func7
    (ChangeSpec.witness6 (enc := enc) (C := Tryz.checked) false ⟨#[], #[.int .u32 0, .agg #[.int .i64 0, .bool false, .bool false, .int .i64 0, .int .i64 0, .int .i64 0, .int .i64 0, .int .i64 0, .int .i64 0, .int .i64 0]], []⟩ 8 (by kernel_rfl) (by kernel_rfl) (by kernel_rfl) (by kernel_rfl)) ?_
  intro W base args ds gs before hval0 hW hcnd _
  have hval : ∀ (j : Nat) t v, Tryz.f7.params[j]? = some t → args[j]? = some v → Value.okWide Tryz.prog W .any base t v := hval0
  have hW' := hW
  obtain ⟨p, q, hA0, hV, rfl, hfz, hnd⟩ := hW
  have hA : DataW.TrodAll enc Tryz.prog W 0 (fun _ => true) true Tryz.f7.params.toList args.toList ds p := hA0
  rw [Tryz.params7] at hA hval
  obtain ⟨v0, vs0, d0, ds0, p0, q0, hargs, rfl, rfl, h0, r0⟩ := trodAll_cons hA
  obtain ⟨v1, vs1, d1, ds1, p1, q1, rfl, rfl, rfl, h1, r1⟩ := trodAll_cons r0
  obtain ⟨rfl, rfl, rfl⟩ := trodAll_nil r1
  obtain rfl : args = #[v0, v1] := by cases args; simp_all
  obtain ⟨rfl, rfl⟩ := trodVars_none hV
  have k0 := h0
  have k1 := h1
  have lt0 : ∀ x ∈ p0, x.block < W.heap.size := by obtain ⟨m, hm⟩ := k0; exact DataW.trod_lt m _ _ _ hm
  have lt1 : ∀ x ∈ p1, x.block < W.heap.size := by obtain ⟨m, hm⟩ := k1; exact DataW.trod_lt m _ _ _ hm
  obtain ⟨a0, rfl, _, _, w0⟩ := open_int Tryz.underlying22 (hval 0 22 v0 rfl rfl) h0
  obtain ⟨y1, rfl, b1⟩ := open_inst (hval 1 24 v1 rfl rfl) h1
  clear hA0 hval0
  refine (walk a0 y1 W (u32_wf w0) b1).mono fun e W' ⟨he, bel⟩ => ?_
  subst he
  exact ⟨_, rfl, _, _, _, [], _, [], hW', trodAll_mk1 (shut_bool Tryz.underlying4 _), (trodAll_cons_mk (Below.trod laidOut (by kernel_rfl) (of_decide_eq_true (by kernel_rfl)) k0 bel lt0) (trodAll_cons_mk (Below.trod laidOut (by kernel_rfl) (of_decide_eq_true (by kernel_rfl)) k1 bel lt1) trodAll_mk0)), rfl, bel.frame _, fun h => by cases h⟩

theorem proved : Rows.DecBackSaid :=
  OpenClaim.holds_of_wide 7 Tryz.f7 rfl rfl rfl rfl rfl rfl rfl ⟨rfl, rfl, rfl, rfl, rfl⟩ rfl rfl rfl rfl rfl (by kernel_rfl) Tryz.func7 (by kernel_rfl)
    (of_decide_eq_true (by kernel_rfl)) (by unfold Func.isWrapper; first | (rw [if_pos (by decide +kernel)]; kernel_rfl) | (rw [if_neg (by decide +kernel)]; exact ⟨rfl, rfl⟩))
    (fun os started H enc _ => lifted os started H enc)

#print axioms proved
end Go.Proofs.YtopfaapcekiojaaGreat.lawDecBack
