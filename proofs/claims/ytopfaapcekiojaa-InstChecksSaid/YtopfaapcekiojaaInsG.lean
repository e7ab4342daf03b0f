/- begun; Check, Clean and Reach of inst and of cooperref04 give the same. -/
import Derived.Test.YtopfaapcekiojaaInsC
namespace Go.Proofs.Ytopfaapcekiojaa.Sym
open Go Go.RowKit Go.Proofs.Ytopfaapcekiojaa
noncomputable section

theorem begun_run : allTrue (runF (lawCx [] []) 300 12 [] [] 0) = true := by kernel_rfl
theorem begun_any (w : World) : Calls Try.prog 12 #[] w (Ret (.bool true) w) :=
  law_run (y := y0) (e := fun _ => 0) (t := fun _ => false) (bd := []) (more := []) (by intro i l h e; cases e) (by intro p hp; cases hp) (args := []) (vals := []) rfl begun_run
abbrev SumF := PC → List (Nat × Blk) → List SV → Option SV
def begunS : FuncId × SumF := (12, patS [] (.p (.c (.bool .tt))))
theorem begun_s {cx : Ctx} {ρ : Env} (hc : cx.P = Try.prog) : SumOk cx ρ begunS.1 begunS.2 := by
  refine patS_ok fun β vals w _ ha => ?_
  cases ha
  exact ⟨_, rfl, by rw [hc]; exact begun_any w⟩
theorem check_mem : (13, tplsSum tp_cooper_inst_Check) ∈ sm_cooper_cooperref04_Reach ∧ (19, tplsSum tp_cooper_cooperref04_Check) ∈ sm_cooper_cooperref04_Reach := by
  constructor
  · simp [sm_cooper_cooperref04_Reach, sm_cooper_inst_Reach, sm_cooper_cooperref04_step, sm_cooper_inst_unit, sm_cooper_cooperref04_Check, sm_cooper_inst_Check]
  · simp [sm_cooper_cooperref04_Reach, sm_cooper_inst_Reach, sm_cooper_cooperref04_step, sm_cooper_inst_unit, sm_cooper_cooperref04_Check]
theorem check_k : allK (fun k => bothOk tp_cooper_inst_Check tp_cooper_cooperref04_Check (bdK k k 7) [instS (.lit k)]) 33 0 = true := by kernel_rfl
theorem check_lo : bothOk tp_cooper_inst_Check tp_cooper_cooperref04_Check (bdK (-9223372036854775808) (-1) 7) [instS (.var 7)] = true := by kernel_rfl
theorem check_hi : bothOk tp_cooper_inst_Check tp_cooper_cooperref04_Check (bdK 33 9223372036854775807 7) [instS (.var 7)] = true := by kernel_rfl
/-- Check of inst and of cooperref04 give the same number -/
theorem check_same (y : Ins) (hy : y.wf) : ∃ z, ∀ w, Calls Try.prog 13 #[y.val] w (Ret (.int .i64 z) w) ∧ Calls Try.prog 19 #[y.val] w (Ret (.int .i64 z) w) := by
  have he : ∀ i : Nat, i + 8 < 7 → I64 ((fun _ => 0 : Nat → Int) i) := fun _ _ => z64
  have w0 : World := default
  refine by_class hy.1 (fun k hk e => ?_) (fun h => ?_) (fun h => ?_)
  · obtain ⟨z, _, h⟩ := both_ok (w := w0) (t := fun _ => false) (bdK_ok hy he (by omega) (by omega)) check_mem.1 check_mem.2 (args := [instS (.lit k)]) (one_den (inst_den (op := .lit k) e.symm _) rfl) (allK_ok check_k k (by omega) (by omega))
    exact ⟨z, h⟩
  · obtain ⟨z, _, h⟩ := both_ok (w := w0) (t := fun _ => false) (bdK_ok hy he (i64_bd hy.1).1 (by omega)) check_mem.1 check_mem.2 (args := [instS (.var 7)]) (one_den (inst_den (op := .var 7) rfl _) rfl) check_lo
    exact ⟨z, h⟩
  · obtain ⟨z, _, h⟩ := both_ok (w := w0) (t := fun _ => false) (bdK_ok hy he (by omega) (i64_bd hy.1).2) check_mem.1 check_mem.2 (args := [instS (.var 7)]) (one_den (inst_den (op := .var 7) rfl _) rfl) check_hi
    exact ⟨z, h⟩
section
variable {y : Ins} {e : Nat → Int} {t : Nat → Bool} {w : World} {bd : List (Nat × Int × Int)}
/-- two functions that give the same, term by term -/
theorem same_ok (hb : BdOk bd (insI y e)) {ts1 ts2 : List Tpl} {f1 f2 : FuncId} (m1 : (f1, tplsSum ts1) ∈ sm_cooper_cooperref04_Reach) (m2 : (f2, tplsSum ts2) ∈ sm_cooper_cooperref04_Reach) {args : List SV} {vals : List Value} (ha : denA (insEnv y e t w) noLay args = some vals) {v : SV}
    (h1 : tplsSum ts1 ⟨bd, [], [], [], [], false⟩ [] args = some v) (h2 : tplsSum ts2 ⟨bd, [], [], [], [], false⟩ [] args = some v) {x : Value} (hx : ∀ w', v.den (insEnv y e t w') noLay = some x) :
    ∀ w', Calls Try.prog f1 vals.toArray w' (Ret x w') ∧ Calls Try.prog f2 vals.toArray w' (Ret x w') := by
  intro w'
  have go : ∀ (f : FuncId) (ts : List Tpl), (f, tplsSum ts) ∈ sm_cooper_cooperref04_Reach → tplsSum ts ⟨bd, [], [], [], [], false⟩ [] args = some v → Calls Try.prog f vals.toArray w' (Ret x w') := by
    intro f ts hm hv
    obtain ⟨x', hx', hc⟩ := ok_cooper_cooperref04_Reach (lawCx bd []) (insEnv y e t w') (insGood y e t w') (fun _ => rfl) rfl (f, tplsSum ts) hm _ _ _ _ hv (pc_bd (t := t) (w := w') hb) ⟨[], []⟩ noLay vals w' 0 (WR.start _ _ _ _) (by rw [den_env]; exact ha)
    rw [hx w'] at hx'
    cases hx'
    exact hc
  exact ⟨go f1 ts1 m1 h1, go f2 ts2 m2 h2⟩
end
def insOf : SV → Option (List SE)
  | .p (.agg [.int .i64 a0, .bool b0, .bool b1, .int .i64 a1, .int .i64 a2, .int .i64 a3, .int .i64 a4, .int .i64 a5, .int .i64 a6, .int .i64 a7]) => some [a0, b0, b1, a1, a2, a3, a4, a5, a6, a7]
  | _ => none
def isSomeL (o : Option (List SE)) : Bool := match o with
  | some _ => true
  | none => false
def cleanOk (bd : List (Nat × Int × Int)) (args : List SV) : Bool := match tplsSum tp_cooper_inst_Clean ⟨bd, [], [], [], [], false⟩ [] args, tplsSum tp_cooper_cooperref04_Clean ⟨bd, [], [], [], [], false⟩ [] args with
  | some a, some b => a.same b && isSomeL (insOf a)
  | _, _ => false
theorem insOf_den {v : SV} (h : isSomeL (insOf v) = true) (y : Ins) (e : Nat → Int) (t : Nat → Bool) (w : World) : ∃ yc : Ins, ∀ w', v.den (insEnv y e t w') noLay = some yc.val := by
  unfold isSomeL at h
  split at h
  · rename_i l hl
    unfold insOf at hl
    split at hl
    · rename_i a0 b0 b1 a1 a2 a3 a4 a5 a6 a7
      refine ⟨⟨a0.int (insEnv y e t w), b0.tru (insEnv y e t w), b1.tru (insEnv y e t w), a1.int (insEnv y e t w), a2.int (insEnv y e t w), a3.int (insEnv y e t w), a4.int (insEnv y e t w), a5.int (insEnv y e t w), a6.int (insEnv y e t w), a7.int (insEnv y e t w)⟩, fun w' => ?_⟩
      have hi : ∀ v : SE, v.int (insEnv y e t w') = v.int (insEnv y e t w) := fun v => ag_env v
      have ht : ∀ v : SE, v.tru (insEnv y e t w') = v.tru (insEnv y e t w) := fun v => by show (v.den _).2 = (v.den _).2; rw [den_same w w']
      show some (Value.agg #[.int .i64 (a0.int _), .bool (b0.tru _), .bool (b1.tru _), .int .i64 (a1.int _), .int .i64 (a2.int _), .int .i64 (a3.int _), .int .i64 (a4.int _), .int .i64 (a5.int _), .int .i64 (a6.int _), .int .i64 (a7.int _)]) = _
      rw [hi, hi, hi, hi, hi, hi, hi, hi, ht, ht]
      rfl
    · cases hl
  · cases h
theorem clean_mem : (17, tplsSum tp_cooper_inst_Clean) ∈ sm_cooper_cooperref04_Reach ∧ (24, tplsSum tp_cooper_cooperref04_Clean) ∈ sm_cooper_cooperref04_Reach := by
  constructor
  · simp [sm_cooper_cooperref04_Reach, sm_cooper_inst_Reach, sm_cooper_cooperref04_step, sm_cooper_inst_unit, sm_cooper_cooperref04_Check, sm_cooper_inst_Check, sm_cooper_cooperref04_Clean, sm_cooper_inst_Clean]
  · simp [sm_cooper_cooperref04_Reach, sm_cooper_inst_Reach, sm_cooper_cooperref04_step, sm_cooper_inst_unit, sm_cooper_cooperref04_Check, sm_cooper_inst_Check, sm_cooper_cooperref04_Clean]
theorem clean_k : allK (fun k => cleanOk (bdK k k 7) [instS (.lit k)]) 33 0 = true := by kernel_rfl
theorem clean_lo : cleanOk (bdK (-9223372036854775808) (-1) 7) [instS (.var 7)] = true := by kernel_rfl
theorem clean_hi : cleanOk (bdK 33 9223372036854775807 7) [instS (.var 7)] = true := by kernel_rfl
/-- Clean of inst and of cooperref04 give the same instruction -/
theorem clean_same (y : Ins) (hy : y.wf) : ∃ yc : Ins, ∀ w, Calls Try.prog 17 #[y.val] w (Ret yc.val w) ∧ Calls Try.prog 24 #[y.val] w (Ret yc.val w) := by
  have he : ∀ i : Nat, i + 8 < 7 → I64 ((fun _ => 0 : Nat → Int) i) := fun _ _ => z64
  have w0 : World := default
  have go : ∀ (op : SE) (bd : List (Nat × Int × Int)), op.int (insEnv y (fun _ => 0) (fun _ => false) w0) = y.op → BdOk bd (insI y fun _ => 0) → cleanOk bd [instS op] = true → ∃ yc : Ins, ∀ w, Calls Try.prog 17 #[y.val] w (Ret yc.val w) ∧ Calls Try.prog 24 #[y.val] w (Ret yc.val w) := by
    intro op bd ho hb h
    unfold cleanOk at h
    split at h
    · rename_i a b h1 h2
      simp only [Bool.and_eq_true] at h
      have := SV.same_eq h.1
      subst this
      obtain ⟨yc, hyc⟩ := insOf_den h.2 y (fun _ => 0) (fun _ => false) w0
      exact ⟨yc, same_ok (w := w0) hb clean_mem.1 clean_mem.2 (one_den (inst_den ho _) rfl) h1 h2 hyc⟩
    · cases h
  refine by_class hy.1 (fun k hk e => ?_) (fun h => ?_) (fun h => ?_)
  · exact go (.lit k) _ e.symm (bdK_ok hy he (by omega) (by omega)) (allK_ok clean_k k (by omega) (by omega))
  · exact go (.var 7) _ rfl (bdK_ok hy he (i64_bd hy.1).1 (by omega)) clean_lo
  · exact go (.var 7) _ rfl (bdK_ok hy he (by omega) (i64_bd hy.1).2) clean_hi
def rchOf : SV → Option (List SE)
  | .tup [.c (.int .i64 a), .c (.int .i64 b), .c (.bool c)] => some [a, b, c]
  | _ => none
def reachOk (bd : List (Nat × Int × Int)) (args : List SV) : Bool := match tplsSum tp_cooper_inst_Reach ⟨bd, [], [], [], [], false⟩ [] args, tplsSum tp_cooper_cooperref04_Reach ⟨bd, [], [], [], [], false⟩ [] args with
  | some a, some b => a.same b && isSomeL (rchOf a)
  | _, _ => false
theorem rchOf_den {v : SV} (h : isSomeL (rchOf v) = true) (y : Ins) (e : Nat → Int) (t : Nat → Bool) (w : World) : ∃ (p q : Int) (s : Bool), ∀ w', v.den (insEnv y e t w') noLay = some (.tuple #[.int .i64 p, .int .i64 q, .bool s]) := by
  unfold isSomeL at h
  split at h
  · rename_i l hl
    unfold rchOf at hl
    split at hl
    · rename_i a b c
      refine ⟨a.int (insEnv y e t w), b.int (insEnv y e t w), c.tru (insEnv y e t w), fun w' => ?_⟩
      have hi : ∀ v : SE, v.int (insEnv y e t w') = v.int (insEnv y e t w) := fun v => ag_env v
      have ht : ∀ v : SE, v.tru (insEnv y e t w') = v.tru (insEnv y e t w) := fun v => by show (v.den _).2 = (v.den _).2; rw [den_same w w']
      show some (Value.tuple #[.int .i64 (a.int _), .int .i64 (b.int _), .bool (c.tru _)]) = _
      rw [hi, hi, ht]
    · cases hl
  · cases h
theorem reach_mem : (27, tplsSum tp_cooper_inst_Reach) ∈ sm_cooper_cooperref04_Reach ∧ (28, tplsSum tp_cooper_cooperref04_Reach) ∈ sm_cooper_cooperref04_Reach := by
  constructor
  · simp [sm_cooper_cooperref04_Reach, sm_cooper_inst_Reach]
  · simp [sm_cooper_cooperref04_Reach]
theorem reach_k : allK (fun k => reachOk (bdK k k 7) [.p (.c (.int .i64 (.lit k))), .p (.c (.bool .tt))] && reachOk (bdK k k 7) [.p (.c (.int .i64 (.lit k))), .p (.c (.bool .ff))]) 33 0 = true := by kernel_rfl
theorem reach_lo : (reachOk (bdK (-9223372036854775808) (-1) 7) [.p (.c (.int .i64 (.var 7))), .p (.c (.bool .tt))] && reachOk (bdK (-9223372036854775808) (-1) 7) [.p (.c (.int .i64 (.var 7))), .p (.c (.bool .ff))]) = true := by kernel_rfl
theorem reach_hi : (reachOk (bdK 33 9223372036854775807 7) [.p (.c (.int .i64 (.var 7))), .p (.c (.bool .tt))] && reachOk (bdK 33 9223372036854775807 7) [.p (.c (.int .i64 (.var 7))), .p (.c (.bool .ff))]) = true := by kernel_rfl
/-- Reach of inst and of cooperref04 give the same -/
theorem reach_same (op : Int) (ho : I64 op) (wide : Bool) : ∃ (p q : Int) (s : Bool), ∀ w, Calls Try.prog 27 #[.int .i64 op, .bool wide] w (Ret (.tuple #[.int .i64 p, .int .i64 q, .bool s]) w) ∧ Calls Try.prog 28 #[.int .i64 op, .bool wide] w (Ret (.tuple #[.int .i64 p, .int .i64 q, .bool s]) w) := by
  have he : ∀ i : Nat, i + 8 < 7 → I64 ((fun _ => 0 : Nat → Int) i) := fun _ _ => z64
  have w0 : World := default
  let y : Ins := { y0 with op := op }
  have hy : y.wf := ⟨ho, y0_wf.2⟩
  have go : ∀ (e : SE) (bd : List (Nat × Int × Int)), e.int (insEnv y (fun _ => 0) (fun _ => false) w0) = op → BdOk bd (insI y fun _ => 0) → (reachOk bd [.p (.c (.int .i64 e)), .p (.c (.bool .tt))] && reachOk bd [.p (.c (.int .i64 e)), .p (.c (.bool .ff))]) = true →
      ∃ (p q : Int) (s : Bool), ∀ w, Calls Try.prog 27 #[.int .i64 op, .bool wide] w (Ret (.tuple #[.int .i64 p, .int .i64 q, .bool s]) w) ∧ Calls Try.prog 28 #[.int .i64 op, .bool wide] w (Ret (.tuple #[.int .i64 p, .int .i64 q, .bool s]) w) := by
    intro e bd ho hb h
    simp only [Bool.and_eq_true] at h
    have one : ∀ b : SE, b.tru (insEnv y (fun _ => 0) (fun _ => false) w0) = wide → reachOk bd [.p (.c (.int .i64 e)), .p (.c (.bool b))] = true →
        ∃ (p q : Int) (s : Bool), ∀ w, Calls Try.prog 27 #[.int .i64 op, .bool wide] w (Ret (.tuple #[.int .i64 p, .int .i64 q, .bool s]) w) ∧ Calls Try.prog 28 #[.int .i64 op, .bool wide] w (Ret (.tuple #[.int .i64 p, .int .i64 q, .bool s]) w) := by
      intro b hbw h
      unfold reachOk at h
      split at h
      · rename_i a b' h1 h2
        simp only [Bool.and_eq_true] at h
        have := SV.same_eq h.1
        subst this
        obtain ⟨p, q, s, hx⟩ := rchOf_den h.2 y (fun _ => 0) (fun _ => false) w0
        refine ⟨p, q, s, same_ok (w := w0) hb reach_mem.1 reach_mem.2 ?_ h1 h2 hx⟩
        refine one_den (v := .int .i64 op) ?_ (one_den (v := .bool wide) ?_ rfl)
        · show some (Value.int .i64 (e.int _)) = _; rw [ho]
        · show some (Value.bool (b.tru _)) = _; rw [hbw]
      · cases h
    cases wide with
    | true => exact one .tt rfl h.1
    | false => exact one .ff rfl h.2
  refine by_class ho (fun k hk e => ?_) (fun h => ?_) (fun h => ?_)
  · exact go (.lit k) _ e.symm (bdK_ok hy he (by show _ ≤ op; omega) (by show op ≤ _; omega)) (allK_ok reach_k k (by omega) (by omega))
  · exact go (.var 7) _ rfl (bdK_ok hy he (i64_bd hy.1).1 (by show op ≤ _; omega)) reach_lo
  · exact go (.var 7) _ rfl (bdK_ok hy he (by show _ ≤ op; omega) (i64_bd hy.1).2) reach_hi
/-- a law about an instruction, class by class -/
theorem law_by_class {y : Ins} (hy : y.wf) {e : Nat → Int} {t : Nat → Bool} {w : World} {n : Nat} (he : ∀ i, i + 8 < n → I64 (e i)) {more : Sums} {f : FuncId} {rest : List SV} {restV : List Value} (hr : denA (insEnv y e t w) noLay rest = some restV)
    (hm : ∀ bd, ∀ p ∈ more, SumOk (lawCx bd more) (insEnv y e t w) p.1 p.2)
    (hk : allK (fun k => allTrue (runF (lawCx (bdK k k n) more) 300 f (instS (.lit k) :: rest) [] 0)) 33 0 = true)
    (hlo : allTrue (runF (lawCx (bdK (-9223372036854775808) (-1) n) more) 300 f (instS (.var 7) :: rest) [] 0) = true)
    (hhi : allTrue (runF (lawCx (bdK 33 9223372036854775807 n) more) 300 f (instS (.var 7) :: rest) [] 0) = true) : Calls Try.prog f (y.val :: restV).toArray w (Ret (.bool true) w) := by
  refine by_class hy.1 (fun k hk' e => ?_) (fun h => ?_) (fun h => ?_)
  · exact law_run (bdK_ok hy he (by omega) (by omega)) (hm _) (one_den (inst_den (op := .lit k) e.symm _) hr) (allK_ok hk k (by omega) (by omega))
  · exact law_run (bdK_ok hy he (i64_bd hy.1).1 (by omega)) (hm _) (one_den (inst_den (op := .var 7) rfl _) hr) hlo
  · exact law_run (bdK_ok hy he (by omega) (i64_bd hy.1).2) (hm _) (one_den (inst_den (op := .var 7) rfl _) hr) hhi
/-- a contract at given arguments, and another one elsewhere -/
def orS (pat : List SV) (v : SV) (ts : List Tpl) : SumF := fun pc H args => match patS pat v pc H args with
  | some u => some u
  | none => tplsSum ts pc H args
theorem or_s {cx : Ctx} {ρ : Env} {f : FuncId} {pat : List SV} {v : SV} {ts : List Tpl} (h1 : SumOk cx ρ f (patS pat v)) (h2 : SumOk cx ρ f (tplsSum ts)) : SumOk cx ρ f (orS pat v ts) := by
  intro pc H args u hu
  unfold orS at hu
  split at hu
  · rename_i u' hu'; cases hu; exact h1 pc H args _ hu'
  · exact h2 pc H args _ hu
theorem by_field {f : Int} (hf : I64 f) {G : Prop} (h1 : ∀ k : Nat, 1 ≤ k → k < 10 → f = k → G) (h2 : -9223372036854775808 ≤ f → f ≤ 0 → G) (h3 : 10 ≤ f → f ≤ 9223372036854775807 → G) : G := by
  have b := i64_bd hf
  by_cases c1 : f < 1
  · exact h2 b.1 (by omega)
  · by_cases c2 : 10 ≤ f
    · exact h3 c2 b.2
    · exact h1 f.toNat (by omega) (by omega) (by omega)
end
end Go.Proofs.Ytopfaapcekiojaa.Sym
