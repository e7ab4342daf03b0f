/- PROVED: FixupHoles returns true for every hole, far or not; the arguments read behind the call as they read before. No condition. -/
import Derived.Test.YtddfafapahnaaaaSymL
import Derived.Test.YtddfafapahnaaaaFixT
import Derived.Test.YtddfafapahnaaaaSymJ
import Derived.Test.YtddfafapahnaaaaCaseO
import Derived.Handy
import Derived.ProofKit
import Derived.OpenShut
import Derived.Lib.SmallJoins
namespace Go.Proofs.Ytddfafapahnaaaa.lawFixupHoles
open Go.ChangeShapes Go.WideShapes Go.ChangeAt Go.RowKit Go.Sort Go.Joins Sym
set_option linter.unusedVariables false

def iv (j : Nat) : SC := .int .i64 (.var j)
def bv (j : Nat) : SC := .bool (.bvar j)
def holeS : SV := .p (.agg [iv 0, iv 1, iv 2, .strv 0, .strv 1])
def farS : SV := .p (.c (bv 0))
def letI8 (kd sz add : Int) (far : Bool) : Nat → Int
  | 0 => kd | 1 => sz | 2 => add | 10 => (reachT kd sz).1 | 11 => (reachT kd sz).2.1 | 12 => (reachT kd sz).2.2.1 | 13 => (typeT kd sz far).1 | 14 => (typeT kd sz far).2 | 15 => checkE kd sz | 16 => widthI kd sz | _ => 0
def letB8 (kd sz : Int) (far : Bool) : Nat → Bool
  | 0 => far | 5 => (reachT kd sz).2.2.2 | _ => false
def hEnv (kd sz add : Int) (pl mi : ByteArray) (far : Bool) (w : World) : Env := ⟨letI8 kd sz add far, letB8 kd sz far, fun _ => .nilFunc, fun _ _ _ _ _ => 0, fun _ _ _ _ _ => false, w.heap.size, w, fun _ => (none, 0), fun i => match i with | 0 => pl | _ => mi⟩
def reachS : SV := .tup [.c (iv 10), .c (iv 11), .c (iv 12), .c (bv 5)]
def typS : SV := .tup [.c (iv 13), .c (iv 14)]
noncomputable def hSums : Sums := [(9, patS [] (.p (.c (.bool .tt)))), (14, patS [holeS] reachS), (15, patS [holeS] reachS), (16, patS [holeS, farS] typS), (17, patS [holeS, farS] typS),
  (19, patS [holeS] (.p (.c (iv 15)))), (20, patS [holeS] (.p (.c (iv 15)))), (21, patS [holeS] (.p (.c (iv 16)))), (22, patS [holeS] (.p (.c (iv 16))))]
noncomputable def hCx : Ctx := { P := Try.prog, bd := [], fb := [], sums := hSums }
theorem run : allTrue (runF hCx 300 5 [holeS, farS] [] 0) = true := by kernel_rfl
theorem mixed : Try.prog.follows .mixedOrders = true := by kernel_rfl
theorem pat_h {cx : Ctx} {ρ : Env} {f : FuncId} {pat : List SV} {v : SV} {vals : List Value} {x : Value} (hp : ∀ β, denA ρ β pat = some vals) (hx : ∀ β, v.den ρ β = some x) (h : ∀ w, Calls cx.P f vals.toArray w (Ret x w)) : SumOk cx ρ f (patS pat v) := by
  refine patS_ok fun β vs w _ ha => ?_
  rw [hp] at ha
  cases ha
  exact ⟨x, hx β, h w⟩
theorem walk (kd sz add : Int) (pl mi : ByteArray) (far : Bool) (w : World) (hb : I64 kd ∧ I64 sz ∧ I64 add) : Calls Try.prog 5 #[.agg #[.int .i64 kd, .int .i64 sz, .int .i64 add, .string pl, .string mi], .bool far] w (Ret (.bool true) w) := by
  have ok : hCx.Ok (hEnv kd sz add pl mi far w) := ⟨(by intro i l h e; cases e), (by intro i l h e; cases e), fun _ => rfl, mixed, (by intro p hp; cases hp)⟩
  have d1 : ∀ β, denA (hEnv kd sz add pl mi far w) β [holeS] = some [holeV kd sz add pl mi] := fun β => rfl
  have d2 : ∀ β, denA (hEnv kd sz add pl mi far w) β [holeS, farS] = some [holeV kd sz add pl mi, .bool far] := fun β => rfl
  refine runF_true (cx := hCx) ok (sums_of ?_) mixed rfl rfl (args := [holeS, farS]) (vals := [holeV kd sz add pl mi, .bool far]) rfl run
  intro p hp
  replace hp : p ∈ hSums := hp
  simp only [hSums, List.mem_cons, List.not_mem_nil, or_false] at hp
  rcases hp with rfl | rfl | rfl | rfl | rfl | rfl | rfl | rfl | rfl
  · exact pat_h (vals := []) (x := .bool true) (fun β => rfl) (fun β => rfl) live_any
  · exact pat_h d1 (x := reachV kd sz) (fun β => rfl) (fun w => reach_any kd sz add pl mi w)
  · exact pat_h d1 (x := reachV kd sz) (fun β => rfl) (fun w => rreach_any kd sz add pl mi w)
  · exact pat_h d2 (x := typeV kd sz far) (fun β => rfl) (fun w => type_any kd sz add pl mi far w)
  · exact pat_h d2 (x := typeV kd sz far) (fun β => rfl) (fun w => rtype_any kd sz add pl mi far w)
  · exact pat_h d1 (x := .int .i64 (checkE kd sz)) (fun β => rfl) (fun w => check_any kd sz add pl mi w)
  · exact pat_h d1 (x := .int .i64 (checkE kd sz)) (fun β => rfl) (fun w => rcheck_any kd sz add pl mi w)
  · exact pat_h d1 (x := .int .i64 (widthI kd sz)) (fun β => rfl) (fun w => width_any kd sz add pl mi w)
  · exact pat_h d1 (x := .int .i64 (widthI kd sz)) (fun β => rfl) (fun w => rwidth_any kd sz add pl mi w)
theorem own : ownKnob Try.prog.godebug = none := by kernel_rfl
theorem laidOut : laidOutB Try.prog = true := by kernel_rfl
set_option maxRecDepth 100000 in
theorem lifted (os : Os) (started : os.Started) (H : Type) (enc : TypeId × Value → H) :
    ReturnsInHanded {} Try.checked os 5 .any (Rows.fixupHolesSpec.pre6 enc Try.prog Try.f5 Rows.fixupHolesRow.domain false) (Rows.fixupHolesSpec.post enc Try.prog Try.f5 false true false false) := by
  refine returnsInHanded_of_change (C := Try.checked) own started (by kernel_rfl) Try.func5
    (ChangeSpec.witness6 (enc := enc) (C := Try.checked) false ⟨#[], #[.agg #[.int .i64 0, .int .i64 0, .int .i64 0, .string ⟨#[]⟩, .string ⟨#[]⟩], .bool false], []⟩ 8 (by kernel_rfl) (by kernel_rfl) (by kernel_rfl) (by kernel_rfl)) ?_
  intro W base args ds gs before hval0 hW hcnd _
  have hval : ∀ (j : Nat) t v, Try.f5.params[j]? = some t → args[j]? = some v → Value.okWide Try.prog W .any base t v := hval0
  have hW' := hW
  obtain ⟨p, q, hA0, hV, rfl, hfz, hnd⟩ := hW
  have hA : DataW.TrodAll enc Try.prog W 0 (fun _ => true) true Try.f5.params.toList args.toList ds p := hA0
  rw [Try.params5] at hA hval
  obtain ⟨v0, vs0, d0, ds0, p0, q0, hargs, rfl, rfl, h0, r0⟩ := trodAll_cons hA
  obtain ⟨v1, vs1, d1, ds1, p1, q1, rfl, rfl, rfl, h1, r1⟩ := trodAll_cons r0
  obtain ⟨rfl, rfl, rfl⟩ := trodAll_nil r1
  obtain rfl : args = #[v0, v1] := by cases args; simp_all
  obtain ⟨rfl, rfl⟩ := trodVars_none hV
  have k0 := h0
  have k1 := h1
  have lt0 : ∀ x ∈ p0, x.block < W.heap.size := by obtain ⟨m, hm⟩ := k0; exact DataW.trod_lt m _ _ _ hm
  have lt1 : ∀ x ∈ p1, x.block < W.heap.size := by obtain ⟨m, hm⟩ := k1; exact DataW.trod_lt m _ _ _ hm
  obtain ⟨kd0, sz0, ad0, pl0, mi0, rfl, b0⟩ := open_hole (hval 0 25 v0 rfl rfl) h0
  obtain ⟨a1, rfl, _, _⟩ := open_bool Try.underlying4 (hval 1 4 v1 rfl rfl) h1
  clear hA0 hval0
  refine (walk kd0 sz0 ad0 pl0 mi0 a1 W b0).mono fun e W' ⟨he, bel⟩ => ?_
  subst he
  exact ⟨_, rfl, _, _, _, [], _, [], hW', trodAll_mk1 (shut_bool Try.underlying4 _), (trodAll_cons_mk (Below.trod laidOut (by kernel_rfl) (of_decide_eq_true (by kernel_rfl)) k0 bel lt0) (trodAll_cons_mk (Below.trod laidOut (by kernel_rfl) (of_decide_eq_true (by kernel_rfl)) k1 bel lt1) trodAll_mk0)), rfl, bel.frame _, fun h => by cases h⟩

theorem proved : Rows.FixupHolesSaid :=
  OpenClaim.holds_of_wide 5 Try.f5 rfl rfl rfl rfl rfl rfl rfl ⟨rfl, rfl, rfl, rfl, rfl⟩ rfl rfl rfl rfl rfl (by kernel_rfl) Try.func5 (by kernel_rfl)
    (of_decide_eq_true (by kernel_rfl)) (by unfold Func.isWrapper; first | (rw [if_pos (by decide +kernel)]; kernel_rfl) | (rw [if_neg (by decide +kernel)]; exact ⟨rfl, rfl⟩))
    (fun os started H enc _ => lifted os started H enc)

#print axioms proved
end Go.Proofs.Ytddfafapahnaaaa.lawFixupHoles
