/- An instruction's argument opened; letters for instructions; runs for each class. -/
import Derived.Test.YtopfaapcekiojaaInsE
import Derived.Test.YtopfaapcekiojaaOpen
namespace Go.Proofs.Ytopfaapcekiojaa
open Go.ChangeShapes Go.WideShapes Go.ChangeAt Go.RowKit Go.Deep
set_option linter.unusedVariables false

theorem flatInst : Flat Try.prog 23 [isInt .i64, isBool, isBool, isInt .i64, isInt .i64, isInt .i64, isInt .i64, isInt .i64, isInt .i64, isInt .i64] :=
  flat_struct Try.underlying23 (by kernel_rfl) (flat_cons (k1 := [isInt .i64]) rfl (by kernel_rfl) (flat_int Try.underlying3) (flat_cons (k1 := [isBool]) rfl (by kernel_rfl) (flat_bool Try.underlying4) (flat_cons (k1 := [isBool]) rfl (by kernel_rfl) (flat_bool Try.underlying4)
    (flat_cons (k1 := [isInt .i64]) rfl (by kernel_rfl) (flat_int Try.underlying3) (flat_cons (k1 := [isInt .i64]) rfl (by kernel_rfl) (flat_int Try.underlying3) (flat_cons (k1 := [isInt .i64]) rfl (by kernel_rfl) (flat_int Try.underlying3) (flat_cons (k1 := [isInt .i64]) rfl (by kernel_rfl) (flat_int Try.underlying3)
    (flat_cons (k1 := [isInt .i64]) rfl (by kernel_rfl) (flat_int Try.underlying2) (flat_cons (k1 := [isInt .i64]) rfl (by kernel_rfl) (flat_int Try.underlying2) (flat_cons (k1 := [isInt .i64]) rfl (by kernel_rfl) (flat_int Try.underlying2) (flat_nil _ _)))))))))))
/-- an instruction's fields -/
structure Ins where
  op : Int
  x : Bool
  s : Bool
  rd : Int
  rn : Int
  rm : Int
  ra : Int
  a : Int
  b : Int
  c : Int
def Ins.val (y : Ins) : Value := .agg #[.int .i64 y.op, .bool y.x, .bool y.s, .int .i64 y.rd, .int .i64 y.rn, .int .i64 y.rm, .int .i64 y.ra, .int .i64 y.a, .int .i64 y.b, .int .i64 y.c]
def Ins.wf (y : Ins) : Prop := I64 y.op ∧ I64 y.rd ∧ I64 y.rn ∧ I64 y.rm ∧ I64 y.ra ∧ I64 y.a ∧ I64 y.b ∧ I64 y.c
set_option maxRecDepth 100000 in
theorem open_inst {w : World} {spare : Nat → Bool} {held : Bool} {H : Type} {enc : TypeId × Value → H} {r : Reach} {b0 : Nat} {v : Value} {d : DataW H} {p : List MemPlace} (hv : Value.okWide Try.prog w r b0 23 v) (h : DataW.Trod enc Try.prog w 0 spare held 23 v d p) :
    ∃ y : Ins, v = y.val ∧ y.wf := by
  obtain ⟨cs, rfl, q0⟩ := open_flat Try.underlying23 flatInst hv h
  obtain ⟨v0, r0, rfl, ⟨a0, rfl, w0⟩, q1⟩ := fits_cons q0
  obtain ⟨v1, r1, rfl, ⟨a1, rfl⟩, q2⟩ := fits_cons q1
  obtain ⟨v2, r2, rfl, ⟨a2, rfl⟩, q3⟩ := fits_cons q2
  obtain ⟨v3, r3, rfl, ⟨a3, rfl, w3⟩, q4⟩ := fits_cons q3
  obtain ⟨v4, r4, rfl, ⟨a4, rfl, w4⟩, q5⟩ := fits_cons q4
  obtain ⟨v5, r5, rfl, ⟨a5, rfl, w5⟩, q6⟩ := fits_cons q5
  obtain ⟨v6, r6, rfl, ⟨a6, rfl, w6⟩, q7⟩ := fits_cons q6
  obtain ⟨v7, r7, rfl, ⟨a7, rfl, w7⟩, q8⟩ := fits_cons q7
  obtain ⟨v8, r8, rfl, ⟨a8, rfl, w8⟩, q9⟩ := fits_cons q8
  obtain ⟨v9, r9, rfl, ⟨a9, rfl, w9⟩, q10⟩ := fits_cons q9
  obtain rfl := fits_nil q10
  exact ⟨⟨a0, a1, a2, a3, a4, a5, a6, a7, a8, a9⟩, rfl, i64_wf w0, i64_wf w3, i64_wf w4, i64_wf w5, i64_wf w6, i64_wf w7, i64_wf w8, i64_wf w9⟩
namespace Sym
noncomputable section
def numS (i : Nat) : SV := .p (.c (.int .i64 (.var i)))
def bdN : Nat → List (Nat × Int × Int)
  | 0 => []
  | n + 1 => (n, -9223372036854775808, 9223372036854775807) :: bdN n
theorem bdN_ok : ∀ {n i : Nat} {l h : Int}, lk (bdN n) i = some (l, h) → i < n ∧ l = -9223372036854775808 ∧ h = 9223372036854775807
  | 0, _, _, _, e => by cases e
  | n + 1, i, l, h, e => by
    unfold bdN at e
    rw [lk_cons] at e
    split at e
    · cases e; exact ⟨by omega, rfl, rfl⟩
    · obtain ⟨h1, h2⟩ := bdN_ok e; exact ⟨by omega, h2⟩
def insI (y : Ins) (e : Nat → Int) : Nat → Int
  | 0 => y.rd
  | 1 => y.rn
  | 2 => y.rm
  | 3 => y.ra
  | 4 => y.a
  | 5 => y.b
  | 6 => y.c
  | 7 => y.op
  | i + 8 => e i
def insB (y : Ins) (e : Nat → Bool) : Nat → Bool
  | 0 => y.x
  | 1 => y.s
  | i + 2 => e i
noncomputable def insG : Nat → Int → Int → Int → Int → Int
  | 1, a, b, _, _ => encF a b
  | 2, a, b, _, _ => patErr a b
  | _, _, _, _, _ => 0
/-- what the letters stand for -/
noncomputable def insEnv (y : Ins) (e : Nat → Int) (t : Nat → Bool) (w : World) : Env := ⟨insI y e, insB y t, fun _ => .nilFunc, insG, fun _ _ _ _ _ => false, w.heap.size, w, fun _ => (none, 0), fun _ => ⟨#[]⟩⟩
theorem insGood (y : Ins) (e : Nat → Int) (t : Nat → Bool) (w : World) : GoodL (insEnv y e t w) := ⟨fun _ _ _ _ => rfl, fun _ _ _ _ => rfl⟩
/-- within bounds -/
def BdOk (bd : List (Nat × Int × Int)) (f : Nat → Int) : Prop := ∀ i l h, lk bd i = some (l, h) → l ≤ f i ∧ f i ≤ h
theorem bd_cons {bd : List (Nat × Int × Int)} {f : Nat → Int} {j : Nat} {a b : Int} (h : a ≤ f j ∧ f j ≤ b) (hb : BdOk bd f) : BdOk ((j, a, b) :: bd) f := by
  intro i l u e
  rw [lk_cons] at e
  split at e
  · rename_i q; cases e; subst q; exact h
  · exact hb i l u e
theorem i64_bd {x : Int} (h : I64 x) : -9223372036854775808 ≤ x ∧ x ≤ 9223372036854775807 := ⟨h.1, Int.le_of_lt_add_one (by have := h.2; show x < _; omega)⟩
theorem bd_all {y : Ins} {e : Nat → Int} (hy : y.wf) {n : Nat} (he : ∀ i, i + 8 < n → I64 (e i)) : BdOk (bdN n) (insI y e) := by
  obtain ⟨y0, y1, y2, y3, y4, y5, y6, y7⟩ := hy
  intro i l h hl
  obtain ⟨hi, rfl, rfl⟩ := bdN_ok hl
  have key : ∀ j, j < n → I64 (insI y e j) := by
    intro j hj
    match j with
    | 0 => exact y1
    | 1 => exact y2
    | 2 => exact y3
    | 3 => exact y4
    | 4 => exact y5
    | 5 => exact y6
    | 6 => exact y7
    | 7 => exact y0
    | i + 8 => exact he i hj
  exact i64_bd (key i hi)
/-- the contracts of a law: its own, and all those by runs -/
def lawSums (more : Sums) : Sums := more ++ sm_cooper_cooperref04_Reach
noncomputable def lawCx (bd : List (Nat × Int × Int)) (more : Sums) : Ctx := { P := Try.prog, bd := bd, fb := [], sums := lawSums more }
theorem law_ok {y : Ins} {e : Nat → Int} {t : Nat → Bool} {w : World} {bd : List (Nat × Int × Int)} {more : Sums} (hb : BdOk bd (insI y e)) : (lawCx bd more).Ok (insEnv y e t w) :=
  ⟨hb, (by intro i l h e; cases e), fun _ => rfl, insM, (by intro p hp; cases hp)⟩
theorem law_sums {y : Ins} {e : Nat → Int} {t : Nat → Bool} {w : World} {bd : List (Nat × Int × Int)} {more : Sums} (h : ∀ p ∈ more, SumOk (lawCx bd more) (insEnv y e t w) p.1 p.2) : SumsOk (lawCx bd more) (insEnv y e t w) := by
  refine sums_of fun p hp => ?_
  rcases List.mem_append.1 hp with hp | hp
  · exact h p hp
  · exact ok_cooper_cooperref04_Reach _ _ (insGood y e t w) (fun _ => rfl) rfl p hp
/-- a law, run: it is true -/
theorem law_run {y : Ins} {e : Nat → Int} {t : Nat → Bool} {w : World} {bd : List (Nat × Int × Int)} {more : Sums} (hb : BdOk bd (insI y e)) (hm : ∀ p ∈ more, SumOk (lawCx bd more) (insEnv y e t w) p.1 p.2) {f : FuncId} {args : List SV} {vals : List Value} (ha : denA (insEnv y e t w) noLay args = some vals)
    (h : allTrue (runF (lawCx bd more) 300 f args [] 0) = true) : Calls Try.prog f vals.toArray w (Ret (.bool true) w) :=
  runF_true (law_ok hb) (law_sums hm) insM rfl rfl ha h
/-- the class of an instruction: one that there is, or none -/
theorem by_class {op : Int} (ho : I64 op) {G : Prop} (h1 : ∀ k : Nat, k < 33 → op = k → G) (h2 : op ≤ -1 → G) (h3 : 33 ≤ op → G) : G := by
  by_cases c1 : op < 0
  · exact h2 (by omega)
  · by_cases c2 : 33 ≤ op
    · exact h3 c2
    · exact h1 op.toNat (by omega) (by omega)
/-- the world that a context is read in says nothing of terms -/
theorem den_same {y : Ins} {e : Nat → Int} {t : Nat → Bool} (w w' : World) : ∀ v : SE, v.den (insEnv y e t w') = v.den (insEnv y e t w) := by
  intro v
  induction v with
  | un o a ih => simp only [SE.den, ih]
  | bin o a b iha ihb => simp only [SE.den, iha, ihb]
  | ite c a b ihc iha ihb => simp only [SE.den, ihc, iha, ihb]
  | bite c a b ihc iha ihb => simp only [SE.den, ihc, iha, ihb]
  | app f a b c d iha ihb ihc ihd => simp only [SE.den, iha, ihb, ihc, ihd]; rfl
  | papp f a b c d iha ihb ihc ihd => simp only [SE.den, iha, ihb, ihc, ihd]; rfl
  | _ => rfl
theorem ag_env {y : Ins} {e : Nat → Int} {t : Nat → Bool} {w w' : World} (v : SE) : v.int (insEnv y e t w') = v.int (insEnv y e t w) := by
  show (v.den _).1 = (v.den _).1
  rw [den_same w w']
theorem den_env {y : Ins} {e : Nat → Int} {t : Nat → Bool} {w w' : World} {β : Lay} (l : List SV) : denA (insEnv y e t w') β l = denA (insEnv y e t w) β l := by
  have sameC : ∀ (x : SC), x.den (insEnv y e t w') β = x.den (insEnv y e t w) β := by
    intro x
    cases x with
    | int k v => show some (Value.int k (v.den _).1) = some (Value.int k (v.den _).1); rw [den_same w w']
    | bool v => show some (Value.bool (v.den _).2) = some (Value.bool (v.den _).2); rw [den_same w w']
    | _ => rfl
  have sameL : ∀ (l : List SC), denL (insEnv y e t w') β l = denL (insEnv y e t w) β l := by
    intro l
    induction l with
    | nil => rfl
    | cons x r ih => unfold denL; rw [sameC, ih]
  have sameP : ∀ (x : SP), x.den (insEnv y e t w') β = x.den (insEnv y e t w) β := by
    intro x
    cases x with
    | c x => exact sameC x
    | agg l => show (denL _ β l).map _ = (denL _ β l).map _; rw [sameL]
  have samePs : ∀ (l : List SP), denP (insEnv y e t w') β l = denP (insEnv y e t w) β l := by
    intro l
    induction l with
    | nil => rfl
    | cons x r ih => unfold denP; rw [sameP, ih]
  have sameV : ∀ (x : SV), x.den (insEnv y e t w') β = x.den (insEnv y e t w) β := by
    intro x
    cases x with
    | p x => exact sameP x
    | tup l => show (denP _ β l).map _ = (denP _ β l).map _; rw [samePs]
    | undef => rfl
    | gd c x => show (if (c.den _).2 then x.den _ β else _) = (if (c.den _).2 then x.den _ β else _); rw [den_same w w', sameP]
  induction l with
  | nil => rfl
  | cons x r ih => unfold denA; rw [sameV, ih]
/-- two functions that give the same number -/
def bothOk (ts1 ts2 : List Tpl) (bd : List (Nat × Int × Int)) (args : List SV) : Bool := match tplsSum ts1 ⟨bd, [], [], [], [], false⟩ [] args, tplsSum ts2 ⟨bd, [], [], [], [], false⟩ [] args with
  | some (.p (.c (.int .i64 a))), some (.p (.c (.int .i64 b))) => prove (mkEq ⟨bd, [], [], [], [], false⟩ a b) 100 ⟨bd, [], [], [], [], false⟩
  | _, _ => false
/-- two functions that give the same, word by word -/
def sameOk (ts1 ts2 : List Tpl) (bd : List (Nat × Int × Int)) (args : List SV) : Bool := match tplsSum ts1 ⟨bd, [], [], [], [], false⟩ [] args, tplsSum ts2 ⟨bd, [], [], [], [], false⟩ [] args with
  | some a, some b => a.same b
  | _, _ => false
section
variable {y : Ins} {e : Nat → Int} {t : Nat → Bool} {w : World} {bd : List (Nat × Int × Int)}
theorem pc_bd (hb : BdOk bd (insI y e)) : PcOk (insEnv y e t w) ⟨bd, [], [], [], [], false⟩ := ⟨hb, (by intro i l h q; cases q), (by intro x q; cases q), (by intro x q; cases q), (by intro x q; cases q), rfl⟩
theorem both_ok (hb : BdOk bd (insI y e)) {ts1 ts2 : List Tpl} {f1 f2 : FuncId} (m1 : (f1, tplsSum ts1) ∈ sm_cooper_cooperref04_Reach) (m2 : (f2, tplsSum ts2) ∈ sm_cooper_cooperref04_Reach) {args : List SV} {vals : List Value} (ha : denA (insEnv y e t w) noLay args = some vals) (h : bothOk ts1 ts2 bd args = true) :
    ∃ z, (∃ se : SE, z = se.int (insEnv y e t w)) ∧ ∀ w', Calls Try.prog f1 vals.toArray w' (Ret (.int .i64 z) w') ∧ Calls Try.prog f2 vals.toArray w' (Ret (.int .i64 z) w') := by
  unfold bothOk at h
  split at h
  · rename_i a b h1 h2
    have := prove_ok 100 (pc_bd (t := t) (w := w) hb) h
    rw [mkEq_ok (pc_bd hb)] at this
    have he : a.int (insEnv y e t w) = b.int (insEnv y e t w) := by simpa using this
    refine ⟨a.int (insEnv y e t w), ⟨a, rfl⟩, fun w' => ?_⟩
    have go : ∀ (f : FuncId) (ts : List Tpl) (v : SE), (f, tplsSum ts) ∈ sm_cooper_cooperref04_Reach → tplsSum ts ⟨bd, [], [], [], [], false⟩ [] args = some (.p (.c (.int .i64 v))) → v.int (insEnv y e t w) = a.int (insEnv y e t w) → Calls Try.prog f vals.toArray w' (Ret (.int .i64 (a.int (insEnv y e t w))) w') := by
      intro f ts v hm hv hvv
      have ag : ∀ v : SE, v.int (insEnv y e t w') = v.int (insEnv y e t w) := fun v => ag_env v
      obtain ⟨x, hx, hc⟩ := ok_cooper_cooperref04_Reach (lawCx bd []) (insEnv y e t w') (insGood y e t w') (fun _ => rfl) rfl (f, tplsSum ts) hm _ _ _ _ hv (pc_bd (t := t) (w := w') hb) ⟨[], []⟩ noLay vals w' 0 (WR.start _ _ _ _) (by rw [den_env]; exact ha)
      have : x = .int .i64 (a.int (insEnv y e t w)) := by
        have : some (Value.int .i64 (v.int (insEnv y e t w'))) = some x := hx
        rw [← Option.some.inj this, ag, hvv]
      rw [this] at hc
      exact hc
    exact ⟨go f1 ts1 a m1 h1 rfl, go f2 ts2 b m2 h2 he.symm⟩
  · cases h
end
end
end Sym
end Go.Proofs.Ytopfaapcekiojaa
