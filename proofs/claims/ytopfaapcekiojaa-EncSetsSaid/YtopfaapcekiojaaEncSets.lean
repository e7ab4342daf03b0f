/- PROVED: EncSets returns true for every instruction and every distance; the arguments read behind the call as they read before. No condition. -/
import Derived.Test.YtopfaapcekiojaaDecC
import Derived.Handy
import Derived.ProofKit
import Derived.OpenShut
import Derived.Lib.SmallJoins
namespace Go.Proofs.Ytopfaapcekiojaa.lawEncSets
open Go.ChangeShapes Go.WideShapes Go.ChangeAt Go.RowKit Go.Sort Go.Joins Sym
set_option linter.unusedVariables false

/-- the cells of the instruction with another distance -/
def cellsA (op : SE) : List SC := [.int .i64 op, .bool (.bvar 0), .bool (.bvar 1), .int .i64 (.var 0), .int .i64 (.var 1), .int .i64 (.var 2), .int .i64 (.var 3), .int .i64 (.var 8), .int .i64 (.var 5), .int .i64 (.var 6)]
def letE (a v z v' z' : Int) : Nat → Int
  | 0 => a | 1 => v | 2 => z | 3 => v' | 4 => z' | _ => 0
theorem live_run : allTrue (runF (decCx [] []) 300 33 [] [] 0) = true := by kernel_rfl
theorem live_any (w : World) : Calls Try.prog 33 #[] w (Ret (.bool true) w) := by
  have ok : (decCx [] []).Ok ((encEnv y0 (fun _ => 0) (fun _ => false) w).at w) := (dec_cxok (y := y0) (e := fun _ => 0) (t := fun _ => false) (w := w) (bd := []) (ax := []) (by intro i l h e; cases e) (by intro p hp; cases hp)).at
  exact runF_true (cx := decCx [] []) ok (dec_sums w) insM rfl rfl (args := []) (vals := []) rfl live_run
noncomputable def setSums (op x e y f : SE) : Sums := (33, patS [] (.p (.c (.bool .tt)))) :: (34, patsS [([.p (.agg (cellsI op))], .tup [.c (.int .u32 x), .c (.int .i64 e)]), ([.p (.agg (cellsA op))], .tup [.c (.int .u32 y), .c (.int .i64 f)])]) :: decSums
noncomputable def setCx (bd : List (Nat × Int × Int)) (op x e y f : SE) (ax : List (SE × Bool)) : Ctx := { P := Try.prog, bd := bd, fb := fbM, sums := setSums op x e y f, ax := ax }
/-- of an instruction that may be: what is asked of it, its word -/
noncomputable def bodyOf (bd : List (Nat × Int × Int)) (l : List SC) : Option (SE × SE) := match encAt (PC.start (decCx bd [])) l with
  | some (.ite c x b, z) => match neBy 100 (assume (PC.start (decCx bd [])) c true) z with
    | true => some (c, b)
    | false => none
  | _ => none
def bdS (k : Int) : List (Nat × Int × Int) := (9, 0, 4294967295) :: (11, 0, 4294967295) :: bdK k k 9
noncomputable def setK (k : Nat) : Bool := match bodyOf (bdS k) (cellsI (.lit k)), bodyOf (bdS k) (cellsA (.lit k)) with
  | some (c, b), some (c', b') => allTrue (runF (setCx (bdS k) (.lit k) b (.lit 0) b' (.lit 0) [(c, false), (c', false)]) 300 11 [instS (.lit k), numS 8] [] 0)
  | _, _ => false
def bdL : List (Nat × Int × Int) := (9, 0, 4294967295) :: (11, 0, 4294967295) :: bdN 9
noncomputable def setB (ax : List (SE × Bool)) : Bool := allTrue (runF (setCx bdL (.var 7) (.var 9) (.var 10) (.var 11) (.var 12) ax) 300 11 [instS (.var 7), numS 8] [] 0)
def axA : List (SE × Bool) := [(.bin .eq (.var 10) (.lit 0), false)]
def axB : List (SE × Bool) := [(.bin .eq (.var 10) (.lit 0), true), (.bin .eq (.var 12) (.lit 0), false)]
def axC : List (SE × Bool) := [(.bin .eq (.var 10) (.lit 0), true), (.bin .eq (.var 12) (.lit 0), true), (.bin .eq (.var 7) (.lit 1), false), (.bin .eq (.var 7) (.lit 7), false), (.bin .eq (.var 7) (.lit 8), false), (.bin .eq (.var 7) (.lit 9), false), (.bin .eq (.var 7) (.lit 10), false), (.bin .eq (.var 7) (.lit 18), false)]
theorem run_a : setB axA = true := by kernel_rfl
theorem run_b : setB axB = true := by kernel_rfl
theorem run_c : setB axC = true := by kernel_rfl
theorem run_1 : setK 1 = true := by kernel_rfl
theorem run_7 : setK 7 = true := by kernel_rfl
theorem run_8 : setK 8 = true := by kernel_rfl
theorem run_9 : setK 9 = true := by kernel_rfl
theorem run_10 : setK 10 = true := by kernel_rfl
theorem run_18 : setK 18 = true := by kernel_rfl
theorem eq_t {a b : Int} (h : a = b) : (a == b) = true := by rw [h]; simp
theorem eq_f {a b : Int} (h : a ≠ b) : (a == b) = false := by simpa using h
def withA (x : Ins) (a : Int) : Ins := { x with a := a }
theorem cellsA_den {x : Ins} {e : Nat → Int} {t : Nat → Bool} {w : World} {op : SE} (h : op.int (encEnv x e t w) = x.op) (β : Lay) : (SP.agg (cellsA op)).den (encEnv x e t w) β = some (withA x (e 0)).val := by
  show some (Value.agg #[.int .i64 (op.int (encEnv x e t w)), .bool x.x, .bool x.s, .int .i64 x.rd, .int .i64 x.rn, .int .i64 x.rm, .int .i64 x.ra, .int .i64 (e 0), .int .i64 x.b, .int .i64 x.c]) = _
  rw [h]; rfl
theorem encI : Try.prog.inits.idxOf? 34 = none := by kernel_rfl
/-- an instruction that may be: its word is the body -/
theorem body_ok {bd : List (Nat × Int × Int)} {l : List SC} {c b : SE} (h : bodyOf bd l = some (c, b)) {x : Ins} {e : Nat → Int} {t : Nat → Bool} {w : World} (hb : BdOk bd (insI x e)) {y : Ins} (hl : ∀ β, (SP.agg l).den (encEnv x e t w) β = some y.val) {v : Int}
    (hv : ∀ W, Calls Try.prog 34 #[y.val] W (Ret (.tuple #[.int .u32 v, .int .i64 0]) W)) : c.tru (encEnv x e t w) = false ∧ v = b.int (encEnv x e t w) := by
  have cok : (decCx bd []).Ok (encEnv x e t w) := dec_cxok hb (by intro p hp; cases hp)
  have ok : PcOk (encEnv x e t w) (PC.start (decCx bd [])) := cok.start
  unfold bodyOf at h
  split at h
  · rename_i c' x' b' z he
    split at h
    · rename_i hn
      cases h
      have h1 := encAt_ok he (encGood x e t w) (fun _ => rfl) ok hl w
      have := ret_unique encI h1 (hv w)
      simp only [Value.tuple.injEq, Array.mk.injEq, List.cons.injEq, Value.int.injEq, true_and, and_true] at this
      obtain ⟨e1, e2⟩ := this
      have hc : c.tru (encEnv x e t w) = false := by
        cases hc : c.tru (encEnv x e t w) with
        | false => rfl
        | true => exact absurd e2 (neBy_ok (assume_ok ok hc) hn)
      refine ⟨hc, ?_⟩
      rw [← e1]
      show (if c.tru _ then _ else _) = _
      rw [hc]
      rfl
    · cases h
  · cases h
theorem walk (x : Ins) (a : Int) (w : World) (hx : x.wf) (ha : I64 a) : Calls Try.prog 11 #[x.val, .int .i64 a] w (Ret (.bool true) w) := by
  have hy : (withA x a).wf := ⟨hx.1, hx.2.1, hx.2.2.1, hx.2.2.2.1, hx.2.2.2.2.1, ha, hx.2.2.2.2.2.2.1, hx.2.2.2.2.2.2.2⟩
  obtain ⟨v, z, uv, ev, _, _, _⟩ := enc_one x hx
  obtain ⟨v', z', uv', ev', _, _, _⟩ := enc_one (withA x a) hy
  have bd0 : ∀ {lo hi : Int}, lo ≤ x.op → x.op ≤ hi → BdOk ((9, 0, 4294967295) :: (11, 0, 4294967295) :: bdK lo hi 9) (insI x (letE a v z v' z')) := by
    intro lo hi h1 h2
    refine bd_cons ⟨uv.1, Int.le_of_lt_add_one (by have := uv.2; show v < _; omega)⟩ (bd_cons ⟨uv'.1, Int.le_of_lt_add_one (by have := uv'.2; show v' < _; omega)⟩ (bdK_ok hx (fun i hi => ?_) h1 h2))
    have : i = 0 := by omega
    subst this
    exact ha
  have bdl : BdOk bdL (insI x (letE a v z v' z')) := by
    refine bd_cons ⟨uv.1, Int.le_of_lt_add_one (by have := uv.2; show v < _; omega)⟩ (bd_cons ⟨uv'.1, Int.le_of_lt_add_one (by have := uv'.2; show v' < _; omega)⟩ (bd_all hx (fun i hi => ?_)))
    have : i = 0 := by omega
    subst this
    exact ha
  have go : ∀ (bd : List (Nat × Int × Int)) (op sx se sy sf : SE) (ax : List (SE × Bool)), BdOk bd (insI x (letE a v z v' z')) → op.int (encEnv x (letE a v z v' z') (fun _ => false) w) = x.op → sx.int (encEnv x (letE a v z v' z') (fun _ => false) w) = v → se.int (encEnv x (letE a v z v' z') (fun _ => false) w) = z →
      sy.int (encEnv x (letE a v z v' z') (fun _ => false) w) = v' → sf.int (encEnv x (letE a v z v' z') (fun _ => false) w) = z' → (∀ p ∈ ax, p.1.tru (encEnv x (letE a v z v' z') (fun _ => false) w) = p.2) →
      allTrue (runF (setCx bd op sx se sy sf ax) 300 11 [.p (.agg (cellsI op)), numS 8] [] 0) = true → Calls Try.prog 11 #[x.val, .int .i64 a] w (Ret (.bool true) w) := by
    intro bd op sx se sy sf ax hb hop h1 h2 h3 h4 hax hr
    have ok : (setCx bd op sx se sy sf ax).Ok (encEnv x (letE a v z v' z') (fun _ => false) w) := ⟨hb, fbM_ok, fun _ => rfl, insM, hax⟩
    have c1 : ∀ β, denA (encEnv x (letE a v z v' z') (fun _ => false) w) β [.p (.agg (cellsI op))] = some [x.val] := fun β => one_den (cells_den hop β) rfl
    have c2 : ∀ β, denA (encEnv x (letE a v z v' z') (fun _ => false) w) β [.p (.agg (cellsA op))] = some [(withA x a).val] := fun β => one_den (cellsA_den (e := letE a v z v' z') hop β) rfl
    refine runF_true (cx := setCx bd op sx se sy sf ax) ok (sums_of ?_) insM rfl rfl (vals := [x.val, .int .i64 a]) (one_den (x := .p (.agg (cellsI op))) (cells_den hop noLay) rfl) hr
    intro p hp
    replace hp : p ∈ setSums op sx se sy sf := hp
    unfold setSums at hp
    rcases List.mem_cons.1 hp with rfl | hp
    · exact pat_s (vals := []) (x := .bool true) (fun β => rfl) (fun β => rfl) live_any
    · rcases List.mem_cons.1 hp with rfl | hp
      · refine pats_s fun p hp => ?_
        simp only [List.mem_cons, List.not_mem_nil, or_false] at hp
        rcases hp with rfl | rfl
        · refine pat_s c1 (x := .tuple #[.int .u32 v, .int .i64 z]) (fun β => ?_) ev
          show some (Value.tuple #[.int .u32 (sx.int _), .int .i64 (se.int _)]) = _
          rw [h1, h2]
        · refine pat_s c2 (x := .tuple #[.int .u32 v', .int .i64 z']) (fun β => ?_) ev'
          show some (Value.tuple #[.int .u32 (sy.int _), .int .i64 (sf.int _)]) = _
          rw [h3, h4]
      · exact ok_decSums _ _ (encGood _ _ _ _) (fun _ => rfl) rfl p hp
  by_cases hz : z = 0
  · by_cases hz' : z' = 0
    · have six : ∀ k : Nat, x.op = k → setK k = true → Calls Try.prog 11 #[x.val, .int .i64 a] w (Ret (.bool true) w) := by
        intro k hk hr
        unfold setK at hr
        split at hr
        · rename_i c b c' b' h1 h2
          have hb := bd0 (lo := k) (hi := k) (by omega) (by omega)
          subst hz
          subst hz'
          obtain ⟨q1, q2⟩ := body_ok h1 (t := fun _ => false) (w := w) hb (cells_den (op := .lit k) hk.symm) ev
          obtain ⟨q3, q4⟩ := body_ok h2 (t := fun _ => false) (w := w) hb (cellsA_den (op := .lit k) hk.symm) ev'
          refine go (bdS k) (.lit k) b (.lit 0) b' (.lit 0) [(c, false), (c', false)] hb hk.symm q2.symm rfl q4.symm rfl ?_ hr
          intro p hp
          simp only [List.mem_cons, List.not_mem_nil, or_false] at hp
          rcases hp with rfl | rfl
          · exact q1
          · exact q3
        · cases hr
      by_cases k1 : x.op = 1
      · exact six 1 k1 run_1
      by_cases k7 : x.op = 7
      · exact six 7 k7 run_7
      by_cases k8 : x.op = 8
      · exact six 8 k8 run_8
      by_cases k9 : x.op = 9
      · exact six 9 k9 run_9
      by_cases k10 : x.op = 10
      · exact six 10 k10 run_10
      by_cases k18 : x.op = 18
      · exact six 18 k18 run_18
      refine go bdL (.var 7) (.var 9) (.var 10) (.var 11) (.var 12) axC bdl rfl rfl rfl rfl rfl ?_ run_c
      intro p hp
      simp only [axC, List.mem_cons, List.not_mem_nil, or_false] at hp
      rcases hp with rfl | rfl | rfl | rfl | rfl | rfl | rfl | rfl
      · exact eq_t hz
      · exact eq_t hz'
      · exact eq_f k1
      · exact eq_f k7
      · exact eq_f k8
      · exact eq_f k9
      · exact eq_f k10
      · exact eq_f k18
    · refine go bdL (.var 7) (.var 9) (.var 10) (.var 11) (.var 12) axB bdl rfl rfl rfl rfl rfl ?_ run_b
      intro p hp
      simp only [axB, List.mem_cons, List.not_mem_nil, or_false] at hp
      rcases hp with rfl | rfl
      · exact eq_t hz
      · exact eq_f hz'
  · refine go bdL (.var 7) (.var 9) (.var 10) (.var 11) (.var 12) axA bdl rfl rfl rfl rfl rfl ?_ run_a
    intro p hp
    simp only [axA, List.mem_cons, List.not_mem_nil, or_false] at hp
    subst hp
    exact eq_f hz
theorem own : ownKnob Try.prog.godebug = none := by kernel_rfl
theorem laidOut : laidOutB Try.prog = true := by kernel_rfl
set_option maxRecDepth 100000 in
theorem lifted (os : Os) (started : os.Started) (H : Type) (enc : TypeId × Value → H) :
    ReturnsInHanded {} Try.checked os 11 .any (Rows.encSetsSpec.pre6 enc Try.prog Try.f11 Rows.encSetsRow.domain false) (Rows.encSetsSpec.post enc Try.prog Try.f11 false true false false) := by
  refine returnsInHanded_of_change (C := Try.checked) own started (by kernel_rfl) Try.func11
    (ChangeSpec.witness6 (enc := enc) (C := Try.checked) false ⟨#[], #[.agg #[.int .i64 0, .bool false, .bool false, .int .i64 0, .int .i64 0, .int .i64 0, .int .i64 0, .int .i64 0, .int .i64 0, .int .i64 0], .int .i64 0], []⟩ 8 (by kernel_rfl) (by kernel_rfl) (by kernel_rfl) (by kernel_rfl)) ?_
  intro W base args ds gs before hval0 hW hcnd _
  have hval : ∀ (j : Nat) t v, Try.f11.params[j]? = some t → args[j]? = some v → Value.okWide Try.prog W .any base t v := hval0
  have hW' := hW
  obtain ⟨p, q, hA0, hV, rfl, hfz, hnd⟩ := hW
  have hA : DataW.TrodAll enc Try.prog W 0 (fun _ => true) true Try.f11.params.toList args.toList ds p := hA0
  rw [Try.params11] at hA hval
  obtain ⟨v0, vs0, d0, ds0, p0, q0, hargs, rfl, rfl, h0, r0⟩ := trodAll_cons hA
  obtain ⟨v1, vs1, d1, ds1, p1, q1, rfl, rfl, rfl, h1, r1⟩ := trodAll_cons r0
  obtain ⟨rfl, rfl, rfl⟩ := trodAll_nil r1
  obtain rfl : args = #[v0, v1] := by cases args; simp_all
  obtain ⟨rfl, rfl⟩ := trodVars_none hV
  have k0 := h0
  have k1 := h1
  have lt0 : ∀ x ∈ p0, x.block < W.heap.size := by obtain ⟨m, hm⟩ := k0; exact DataW.trod_lt m _ _ _ hm
  have lt1 : ∀ x ∈ p1, x.block < W.heap.size := by obtain ⟨m, hm⟩ := k1; exact DataW.trod_lt m _ _ _ hm
  obtain ⟨y0, rfl, b0⟩ := open_inst (hval 0 23 v0 rfl rfl) h0
  obtain ⟨a1, rfl, _, _, w1⟩ := open_int Try.underlying2 (hval 1 2 v1 rfl rfl) h1
  clear hA0 hval0
  refine (walk y0 a1 W b0 (i64_wf w1)).mono fun e W' ⟨he, bel⟩ => ?_
  subst he
  exact ⟨_, rfl, _, _, _, [], _, [], hW', trodAll_mk1 (shut_bool Try.underlying4 _), (trodAll_cons_mk (Below.trod laidOut (by kernel_rfl) (of_decide_eq_true (by kernel_rfl)) k0 bel lt0) (trodAll_cons_mk (Below.trod laidOut (by kernel_rfl) (of_decide_eq_true (by kernel_rfl)) k1 bel lt1) trodAll_mk0)), rfl, bel.frame _, fun h => by cases h⟩

theorem proved : Rows.EncSetsSaid :=
  OpenClaim.holds_of_wide 11 Try.f11 rfl rfl rfl rfl rfl rfl rfl ⟨rfl, rfl, rfl, rfl, rfl⟩ rfl rfl rfl rfl rfl (by kernel_rfl) Try.func11 (by kernel_rfl)
    (of_decide_eq_true (by kernel_rfl)) (by unfold Func.isWrapper; first | (rw [if_pos (by decide +kernel)]; kernel_rfl) | (rw [if_neg (by decide +kernel)]; exact ⟨rfl, rfl⟩))
    (fun os started H enc _ => lifted os started H enc)

#print axioms proved
end Go.Proofs.Ytopfaapcekiojaa.lawEncSets
