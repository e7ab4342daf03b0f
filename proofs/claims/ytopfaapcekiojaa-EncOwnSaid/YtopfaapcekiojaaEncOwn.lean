/- PROVED: EncOwn returns true for every two instructions; the arguments read behind the call as they read before. No condition. -/
import Derived.Test.YtopfaapcekiojaaDecC
import Derived.Handy
import Derived.ProofKit
import Derived.OpenShut
import Derived.Lib.SmallJoins
namespace Go.Proofs.Ytopfaapcekiojaa.lawEncOwn
open Go.ChangeShapes Go.WideShapes Go.ChangeAt Go.RowKit Go.Sort Go.Joins Sym
set_option linter.unusedVariables false

def instT : SV := .p (.agg [.int .i64 (.var 17), .bool (.bvar 2), .bool (.bvar 3), .int .i64 (.var 10), .int .i64 (.var 11), .int .i64 (.var 12), .int .i64 (.var 13), .int .i64 (.var 14), .int .i64 (.var 15), .int .i64 (.var 16)])
def letE (a z : Int) (y : Ins) (b u : Int) : Nat → Int
  | 0 => a | 1 => z | 2 => y.rd | 3 => y.rn | 4 => y.rm | 5 => y.ra | 6 => y.a | 7 => y.b | 8 => y.c | 9 => y.op | 10 => b | 11 => u | _ => 0
def letB (y : Ins) : Nat → Bool
  | 0 => y.x | 1 => y.s | _ => false
theorem instT_den (x y : Ins) (a z b u : Int) (w : World) (β : Lay) : instT.den (encEnv x (letE a z y b u) (letB y) w) β = some y.val := rfl
noncomputable def ownSums : Sums := [(33, patS [] (.p (.c (.bool .tt)))), (34, patsS [([instS (.var 7)], .tup [.c (.int .u32 (.var 8)), .c (.int .i64 (.var 9))]), ([instT], .tup [.c (.int .u32 (.var 18)), .c (.int .i64 (.var 19))])]), (19, patsS [([instS (.var 7)], .p (.c (.int .i64 (.var 9)))), ([instT], .p (.c (.int .i64 (.var 19))))])]
noncomputable def ownCx (ax : List (SE × Bool)) : Ctx := { P := Try.prog, bd := [], fb := [], sums := ownSums, ax := ax }
theorem live_run : allTrue (runF (decCx [] []) 300 33 [] [] 0) = true := by kernel_rfl
theorem live_any (w : World) : Calls Try.prog 33 #[] w (Ret (.bool true) w) := by
  have ok : (decCx [] []).Ok ((encEnv y0 (fun _ => 0) (fun _ => false) w).at w) := (dec_cxok (y := y0) (e := fun _ => 0) (t := fun _ => false) (w := w) (bd := []) (ax := []) (by intro i l h e; cases e) (by intro p hp; cases hp)).at
  exact runF_true (cx := decCx [] []) ok (dec_sums w) insM rfl rfl (args := []) (vals := []) rfl live_run
def conj : SE := .bin .and (.bin .eq (.var 7) (.var 17)) (.bin .and (.bin .beq (.bvar 0) (.bvar 2)) (.bin .and (.bin .beq (.bvar 1) (.bvar 3)) (.bin .and (.bin .eq (.var 0) (.var 10)) (.bin .and (.bin .eq (.var 1) (.var 11)) (.bin .and (.bin .eq (.var 2) (.var 12)) (.bin .and (.bin .eq (.var 3) (.var 13)) (.bin .and (.bin .eq (.var 4) (.var 14)) (.bin .and (.bin .eq (.var 5) (.var 15)) (.bin .eq (.var 6) (.var 16))))))))))
def axA : List (SE × Bool) := [(.bin .eq (.var 9) (.lit 0), false)]
def axB : List (SE × Bool) := [(.bin .eq (.var 9) (.lit 0), true), (.bin .eq (.var 19) (.lit 0), false)]
def axC : List (SE × Bool) := [(.bin .eq (.var 9) (.lit 0), true)]
def axD : List (SE × Bool) := [(.bin .eq (.var 9) (.lit 0), true), (.bin .eq (.var 19) (.lit 0), true), (.bin .eq (.var 8) (.var 18), false), (conj, false)]
theorem run_a : allTrue (runF (ownCx axA) 300 10 [instS (.var 7), instT] [] 0) = true := by kernel_rfl
theorem run_b : allTrue (runF (ownCx axB) 300 10 [instS (.var 7), instT] [] 0) = true := by kernel_rfl
theorem run_c : allTrue (runF (ownCx axC) 300 10 [instS (.var 7), instS (.var 7)] [] 0) = true := by kernel_rfl
theorem run_d : allTrue (runF (ownCx axD) 300 10 [instS (.var 7), instT] [] 0) = true := by kernel_rfl
theorem decI : Try.prog.inits.idxOf? 32 = none := by kernel_rfl
theorem val_inj {x y : Ins} (h : x.val = y.val) : x = y := by
  obtain ⟨a0, a1, a2, a3, a4, a5, a6, a7, a8, a9⟩ := x
  obtain ⟨b0, b1, b2, b3, b4, b5, b6, b7, b8, b9⟩ := y
  simp only [Ins.val, Value.agg.injEq, Array.mk.injEq, List.cons.injEq, Value.int.injEq, Value.bool.injEq, true_and, and_true] at h
  obtain ⟨rfl, rfl, rfl, rfl, rfl, rfl, rfl, rfl, rfl, rfl⟩ := h
  rfl
theorem eq_t {a b : Int} (h : a = b) : (a == b) = true := by rw [h]; simp
theorem eq_f {a b : Int} (h : a ≠ b) : (a == b) = false := by simpa using h
theorem walk (x y : Ins) (w : World) (hx : x.wf) (hy : y.wf) : Calls Try.prog 10 #[x.val, y.val] w (Ret (.bool true) w) := by
  obtain ⟨a, z, ua, ea, _, ca, da⟩ := enc_one x hx
  obtain ⟨b, u, ub, eb, _, cb, db⟩ := enc_one y hy
  have den1 : ∀ β, denA (encEnv x (letE a z y b u) (letB y) w) β [instS (.var 7)] = some [x.val] := fun β => rfl
  have den2 : ∀ β, denA (encEnv x (letE a z y b u) (letB y) w) β [instT] = some [y.val] := fun β => rfl
  have go : ∀ (ax : List (SE × Bool)) (args : List SV), (∀ p ∈ ax, p.1.tru (encEnv x (letE a z y b u) (letB y) w) = p.2) → denA (encEnv x (letE a z y b u) (letB y) w) noLay args = some [x.val, y.val] → allTrue (runF (ownCx ax) 300 10 args [] 0) = true → Calls Try.prog 10 #[x.val, y.val] w (Ret (.bool true) w) := by
    intro ax args hax ha hr
    have ok : (ownCx ax).Ok (encEnv x (letE a z y b u) (letB y) w) := ⟨(by intro i l h e; cases e), (by intro i l h e; cases e), fun _ => rfl, insM, hax⟩
    refine runF_true (cx := ownCx ax) ok (sums_of ?_) insM rfl rfl ha hr
    intro p hp
    replace hp : p ∈ ownSums := hp
    simp only [ownSums, List.mem_cons, List.not_mem_nil, or_false] at hp
    rcases hp with rfl | rfl | rfl
    · exact pat_s (vals := []) (x := .bool true) (fun β => rfl) (fun β => rfl) live_any
    · refine pats_s fun p hp => ?_
      simp only [List.mem_cons, List.not_mem_nil, or_false] at hp
      rcases hp with rfl | rfl
      · exact pat_s den1 (fun β => rfl) ea
      · exact pat_s den2 (fun β => rfl) eb
    · refine pats_s fun p hp => ?_
      simp only [List.mem_cons, List.not_mem_nil, or_false] at hp
      rcases hp with rfl | rfl
      · exact pat_s den1 (fun β => rfl) ca
      · exact pat_s den2 (fun β => rfl) cb
  by_cases hz : z = 0
  · by_cases hu : u = 0
    · by_cases hxy : x = y
      · subst hxy
        refine go axC [instS (.var 7), instS (.var 7)] ?_ rfl run_c
        intro p hp
        simp only [axC, List.mem_cons, List.not_mem_nil, or_false] at hp
        subst hp
        exact eq_t hz
      · obtain ⟨_, _, _, dx⟩ := da hz
        obtain ⟨_, _, _, dy⟩ := db hu
        have hab : a ≠ b := by
          intro e
          subst e
          have := ret_unique decI (dx w) (dy w)
          simp only [Value.tuple.injEq, Array.mk.injEq, List.cons.injEq, and_true] at this
          exact hxy (val_inj this)
        refine go axD [instS (.var 7), instT] ?_ rfl run_d
        intro p hp
        simp only [axD, List.mem_cons, List.not_mem_nil, or_false] at hp
        rcases hp with rfl | rfl | rfl | rfl
        · exact eq_t hz
        · exact eq_t hu
        · exact eq_f hab
        · show conj.tru _ = false
          cases hc : conj.tru (encEnv x (letE a z y b u) (letB y) w) with
          | false => rfl
          | true =>
            exfalso
            replace hc : ((x.op == y.op) && ((x.x == y.x) && ((x.s == y.s) && ((x.rd == y.rd) && ((x.rn == y.rn) && ((x.rm == y.rm) && ((x.ra == y.ra) && ((x.a == y.a) && ((x.b == y.b) && (x.c == y.c)))))))))) = true := hc
            simp only [Bool.and_eq_true, beq_iff_eq] at hc
            obtain ⟨h0, h1, h2, h3, h4, h5, h6, h7, h8, h9⟩ := hc
            obtain ⟨a0, a1, a2, a3, a4, a5, a6, a7, a8, a9⟩ := x
            obtain ⟨b0, b1, b2, b3, b4, b5, b6, b7, b8, b9⟩ := y
            simp only at h0 h1 h2 h3 h4 h5 h6 h7 h8 h9
            subst h0 h1 h2 h3 h4 h5 h6 h7 h8 h9
            exact hxy rfl
    · refine go axB [instS (.var 7), instT] ?_ rfl run_b
      intro p hp
      simp only [axB, List.mem_cons, List.not_mem_nil, or_false] at hp
      rcases hp with rfl | rfl
      · exact eq_t hz
      · exact eq_f hu
  · refine go axA [instS (.var 7), instT] ?_ rfl run_a
    intro p hp
    simp only [axA, List.mem_cons, List.not_mem_nil, or_false] at hp
    subst hp
    exact eq_f hz
theorem own : ownKnob Try.prog.godebug = none := by kernel_rfl
theorem laidOut : laidOutB Try.prog = true := by kernel_rfl
set_option maxRecDepth 100000 in
theorem lifted (os : Os) (started : os.Started) (H : Type) (enc : TypeId × Value → H) :
    ReturnsInHanded {} Try.checked os 10 .any (Rows.encOwnSpec.pre6 enc Try.prog Try.f10 Rows.encOwnRow.domain false) (Rows.encOwnSpec.post enc Try.prog Try.f10 false true false false) := by
  refine returnsInHanded_of_change (C := Try.checked) own started (by kernel_rfl) Try.func10
    (ChangeSpec.witness6 (enc := enc) (C := Try.checked) false ⟨#[], #[.agg #[.int .i64 0, .bool false, .bool false, .int .i64 0, .int .i64 0, .int .i64 0, .int .i64 0, .int .i64 0, .int .i64 0, .int .i64 0], .agg #[.int .i64 0, .bool false, .bool false, .int .i64 0, .int .i64 0, .int .i64 0, .int .i64 0, .int .i64 0, .int .i64 0, .int .i64 0]], []⟩ 8 (by kernel_rfl) (by kernel_rfl) (by kernel_rfl) (by kernel_rfl)) ?_
  intro W base args ds gs before hval0 hW hcnd _
  have hval : ∀ (j : Nat) t v, Try.f10.params[j]? = some t → args[j]? = some v → Value.okWide Try.prog W .any base t v := hval0
  have hW' := hW
  obtain ⟨p, q, hA0, hV, rfl, hfz, hnd⟩ := hW
  have hA : DataW.TrodAll enc Try.prog W 0 (fun _ => true) true Try.f10.params.toList args.toList ds p := hA0
  rw [Try.params10] at hA hval
  obtain ⟨v0, vs0, d0, ds0, p0, q0, hargs, rfl, rfl, h0, r0⟩ := trodAll_cons hA
  obtain ⟨v1, vs1, d1, ds1, p1, q1, rfl, rfl, rfl, h1, r1⟩ := trodAll_cons r0
  obtain ⟨rfl, rfl, rfl⟩ := trodAll_nil r1
  obtain rfl : args = #[v0, v1] := by cases args; simp_all
  obtain ⟨rfl, rfl⟩ := trodVars_none hV
  have k0 := h0
  have k1 := h1
  have lt0 : ∀ x ∈ p0, x.block < W.heap.size := by obtain ⟨m, hm⟩ := k0; exact DataW.trod_lt m _ _ _ hm
  have lt1 : ∀ x ∈ p1, x.block < W.heap.size := by obtain ⟨m, hm⟩ := k1; exact DataW.trod_lt m _ _ _ hm
  obtain ⟨y0, rfl, b0⟩ := open_inst (hval 0 23 v0 rfl rfl) h0
  obtain ⟨y1, rfl, b1⟩ := open_inst (hval 1 23 v1 rfl rfl) h1
  clear hA0 hval0
  refine (walk y0 y1 W b0 b1).mono fun e W' ⟨he, bel⟩ => ?_
  subst he
  exact ⟨_, rfl, _, _, _, [], _, [], hW', trodAll_mk1 (shut_bool Try.underlying4 _), (trodAll_cons_mk (Below.trod laidOut (by kernel_rfl) (of_decide_eq_true (by kernel_rfl)) k0 bel lt0) (trodAll_cons_mk (Below.trod laidOut (by kernel_rfl) (of_decide_eq_true (by kernel_rfl)) k1 bel lt1) trodAll_mk0)), rfl, bel.frame _, fun h => by cases h⟩

theorem proved : Rows.EncOwnSaid :=
  OpenClaim.holds_of_wide 10 Try.f10 rfl rfl rfl rfl rfl rfl rfl ⟨rfl, rfl, rfl, rfl, rfl⟩ rfl rfl rfl rfl rfl (by kernel_rfl) Try.func10 (by kernel_rfl)
    (of_decide_eq_true (by kernel_rfl)) (by unfold Func.isWrapper; first | (rw [if_pos (by decide +kernel)]; kernel_rfl) | (rw [if_neg (by decide +kernel)]; exact ⟨rfl, rfl⟩))
    (fun os started H enc _ => lifted os started H enc)

#print axioms proved
end Go.Proofs.Ytopfaapcekiojaa.lawEncOwn
