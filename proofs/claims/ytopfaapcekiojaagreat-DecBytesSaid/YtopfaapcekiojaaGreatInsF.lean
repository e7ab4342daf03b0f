/- The letters of an instruction; the field of a logical immediate as a function's letter. -/
import Derived.Test.YtopfaapcekiojaaGreatSymJ
import Derived.Test.YtopfaapcekiojaaGreatLogK
import Derived.Test.YtopfaapcekiojaaGreatOpen
namespace Go.Proofs.YtopfaapcekiojaaGreat.Sym
open Go Go.RowKit Go.Proofs.YtopfaapcekiojaaGreat
noncomputable section

/-- the letters: 0 to 6 the fields, 7 the class, from 8 on the others -/
def instS (op : SE) : SV := .p (.agg [.int .i64 op, .bool (.bvar 0), .bool (.bvar 1), .int .i64 (.var 0), .int .i64 (.var 1), .int .i64 (.var 2), .int .i64 (.var 3), .int .i64 (.var 4), .int .i64 (.var 5), .int .i64 (.var 6)])
/-- the letters of functions: 1: the field of a logical immediate; 2: its error -/
def GoodL (ρ : Env) : Prop := (∀ a b c d, ρ.f 1 a b c d = encF a b) ∧ (∀ a b c d, ρ.f 2 a b c d = patErr a b)
theorem keepsL : Keeps GoodL := fun _ h _ _ _ => h
def inU64 (r : Option (Int × Int)) : Bool := match r with
  | some (l, h) => Sym.within .u64 l h
  | none => false
def fieldS (pc : PC) (_ : List (Nat × Blk)) (args : List SV) : Option SV := match args with
  | [.p (.c (.int .u64 e)), .p (.c (.int .i64 w))] => match inU64 (bnd pc e) with
    | true => some (.tup [.c (.int .i64 (.app 1 (wrap64S e) w (.lit 0) (.lit 0))), .c (.int .i64 (.app 2 (wrap64S e) w (.lit 0) (.lit 0)))])
    | false => none
  | _ => none
def fieldSums : Sums := [(138, fieldS), (108, fieldS)]
theorem inU64_ok {ρ : Env} {pc : PC} (ok : PcOk ρ pc) {e : SE} (h : inU64 (bnd pc e) = true) : U64 (e.int ρ) := by
  unfold inU64 at h
  split at h
  · rename_i l u hr
    have b := bnd_ok ok hr
    have w := within_ok h
    have m1 : IntKind.u64.min = 0 := rfl
    have m2 : IntKind.u64.max = 18446744073709551615 := rfl
    exact ⟨by omega, by omega⟩
  · cases h
theorem field_s {cx : Ctx} {ρ : Env} (hg : GoodL ρ) {f : FuncId} (h : ∀ (v w : Int) (_ : U64 v) (W : World), Calls cx.P f #[.int .u64 v, .int .i64 w] W (Ret (.tuple #[.int .i64 (encF v w), .int .i64 (patErr v w)]) W)) : SumOk cx ρ f fieldS := by
  intro pc H args v hv ok L β vals w n hW ha
  unfold fieldS at hv
  split at hv
  · rename_i e w'
    split at hv
    · rename_i hu
      cases hv
      cases ha
      refine ⟨.tuple #[.int .i64 (encF (e.int ρ) (w'.int ρ)), .int .i64 (patErr (e.int ρ) (w'.int ρ))], ?_, h _ _ (inU64_ok ok hu) w⟩
      have u := inU64_ok ok hu
      have e64 : (wrap64S e).int ρ = e.int ρ := by
        rw [wrap64S_ok, show (2 : Int) ^ 0 = 1 from rfl, Int.ediv_one]
        exact Int.emod_eq_of_lt u.1 (by have := u.2; show _ < (18446744073709551616 : Int); omega)
      show some (Value.tuple #[.int .i64 (ρ.f 1 ((wrap64S e).int ρ) (w'.int ρ) 0 0), .int .i64 (ρ.f 2 ((wrap64S e).int ρ) (w'.int ρ) 0 0)]) = _
      rw [hg.1, hg.2, e64]
    · cases hv
  · cases hv
theorem ok_fieldSums : AllOk Tryz.prog GoodL fieldSums := by
  intro cx ρ hg _ hP p hp
  simp only [fieldSums, List.mem_cons, List.not_mem_nil, or_false] at hp
  rcases hp with rfl | rfl
  · exact field_s hg (fun v w hv W => by rw [hP]; exact field_any v w hv W)
  · exact field_s hg (fun v w hv W => by rw [hP]; exact rfield_any v w hv W)
theorem insM : Tryz.prog.follows .mixedOrders = true := by kernel_rfl
end
end Go.Proofs.YtopfaapcekiojaaGreat.Sym

/- An instruction's argument opened; letters for instructions. -/
namespace Go.Proofs.YtopfaapcekiojaaGreat
open Go.ChangeShapes Go.WideShapes Go.ChangeAt Go.RowKit Go.Deep
set_option linter.unusedVariables false

theorem flatInst : Flat Tryz.prog 24 [isInt .i64, isBool, isBool, isInt .i64, isInt .i64, isInt .i64, isInt .i64, isInt .i64, isInt .i64, isInt .i64] :=
  flat_struct Tryz.underlying24 (by kernel_rfl) (flat_cons (k1 := [isInt .i64]) rfl (by kernel_rfl) (flat_int Tryz.underlying3) (flat_cons (k1 := [isBool]) rfl (by kernel_rfl) (flat_bool Tryz.underlying4) (flat_cons (k1 := [isBool]) rfl (by kernel_rfl) (flat_bool Tryz.underlying4)
    (flat_cons (k1 := [isInt .i64]) rfl (by kernel_rfl) (flat_int Tryz.underlying3) (flat_cons (k1 := [isInt .i64]) rfl (by kernel_rfl) (flat_int Tryz.underlying3) (flat_cons (k1 := [isInt .i64]) rfl (by kernel_rfl) (flat_int Tryz.underlying3) (flat_cons (k1 := [isInt .i64]) rfl (by kernel_rfl) (flat_int Tryz.underlying3)
    (flat_cons (k1 := [isInt .i64]) rfl (by kernel_rfl) (flat_int Tryz.underlying2) (flat_cons (k1 := [isInt .i64]) rfl (by kernel_rfl) (flat_int Tryz.underlying2) (flat_cons (k1 := [isInt .i64]) rfl (by kernel_rfl) (flat_int Tryz.underlying2) (flat_nil _ _)))))))))))
/-- an instruction's fields -/
structure Ins where
  op : Int
  x : Bool
  s : Bool
  rd : Int
  rn : Int
  rm : Int
  ra : Int
  a : Int
  b : Int
  c : Int
def Ins.val (y : Ins) : Value := .agg #[.int .i64 y.op, .bool y.x, .bool y.s, .int .i64 y.rd, .int .i64 y.rn, .int .i64 y.rm, .int .i64 y.ra, .int .i64 y.a, .int .i64 y.b, .int .i64 y.c]
def Ins.wf (y : Ins) : Prop := I64 y.op ∧ I64 y.rd ∧ I64 y.rn ∧ I64 y.rm ∧ I64 y.ra ∧ I64 y.a ∧ I64 y.b ∧ I64 y.c
set_option maxRecDepth 100000 in
theorem open_inst {w : World} {spare : Nat → Bool} {held : Bool} {H : Type} {enc : TypeId × Value → H} {r : Reach} {b0 : Nat} {v : Value} {d : DataW H} {p : List MemPlace} (hv : Value.okWide Tryz.prog w r b0 24 v) (h : DataW.Trod enc Tryz.prog w 0 spare held 24 v d p) :
    ∃ y : Ins, v = y.val ∧ y.wf := by
  obtain ⟨cs, rfl, q0⟩ := open_flat Tryz.underlying24 flatInst hv h
  obtain ⟨v0, r0, rfl, ⟨a0, rfl, w0⟩, q1⟩ := fits_cons q0
  obtain ⟨v1, r1, rfl, ⟨a1, rfl⟩, q2⟩ := fits_cons q1
  obtain ⟨v2, r2, rfl, ⟨a2, rfl⟩, q3⟩ := fits_cons q2
  obtain ⟨v3, r3, rfl, ⟨a3, rfl, w3⟩, q4⟩ := fits_cons q3
  obtain ⟨v4, r4, rfl, ⟨a4, rfl, w4⟩, q5⟩ := fits_cons q4
  obtain ⟨v5, r5, rfl, ⟨a5, rfl, w5⟩, q6⟩ := fits_cons q5
  obtain ⟨v6, r6, rfl, ⟨a6, rfl, w6⟩, q7⟩ := fits_cons q6
  obtain ⟨v7, r7, rfl, ⟨a7, rfl, w7⟩, q8⟩ := fits_cons q7
  obtain ⟨v8, r8, rfl, ⟨a8, rfl, w8⟩, q9⟩ := fits_cons q8
  obtain ⟨v9, r9, rfl, ⟨a9, rfl, w9⟩, q10⟩ := fits_cons q9
  obtain rfl := fits_nil q10
  exact ⟨⟨a0, a1, a2, a3, a4, a5, a6, a7, a8, a9⟩, rfl, i64_wf w0, i64_wf w3, i64_wf w4, i64_wf w5, i64_wf w6, i64_wf w7, i64_wf w8, i64_wf w9⟩
namespace Sym
noncomputable section
def numS (i : Nat) : SV := .p (.c (.int .i64 (.var i)))
def bdN : Nat → List (Nat × Int × Int)
  | 0 => []
  | n + 1 => (n, -9223372036854775808, 9223372036854775807) :: bdN n
theorem bdN_ok : ∀ {n i : Nat} {l h : Int}, lk (bdN n) i = some (l, h) → i < n ∧ l = -9223372036854775808 ∧ h = 9223372036854775807
  | 0, _, _, _, e => by cases e
  | n + 1, i, l, h, e => by
    unfold bdN at e
    rw [lk_cons] at e
    split at e
    · cases e; exact ⟨by omega, rfl, rfl⟩
    · obtain ⟨h1, h2⟩ := bdN_ok e; exact ⟨by omega, h2⟩
def insI (y : Ins) (e : Nat → Int) : Nat → Int
  | 0 => y.rd
  | 1 => y.rn
  | 2 => y.rm
  | 3 => y.ra
  | 4 => y.a
  | 5 => y.b
  | 6 => y.c
  | 7 => y.op
  | i + 8 => e i
def insB (y : Ins) (e : Nat → Bool) : Nat → Bool
  | 0 => y.x
  | 1 => y.s
  | i + 2 => e i
noncomputable def insG : Nat → Int → Int → Int → Int → Int
  | 1, a, b, _, _ => encF a b
  | 2, a, b, _, _ => patErr a b
  | _, _, _, _, _ => 0
/-- what the letters stand for -/
noncomputable def insEnv (y : Ins) (e : Nat → Int) (t : Nat → Bool) (w : World) : Env := ⟨insI y e, insB y t, fun _ => .nilFunc, insG, fun _ _ _ _ _ => false, w.heap.size, w, fun _ => (none, 0), fun _ => ⟨#[]⟩⟩
theorem insGood (y : Ins) (e : Nat → Int) (t : Nat → Bool) (w : World) : GoodL (insEnv y e t w) := ⟨fun _ _ _ _ => rfl, fun _ _ _ _ => rfl⟩
/-- within bounds -/
def BdOk (bd : List (Nat × Int × Int)) (f : Nat → Int) : Prop := ∀ i l h, lk bd i = some (l, h) → l ≤ f i ∧ f i ≤ h
theorem bd_cons {bd : List (Nat × Int × Int)} {f : Nat → Int} {j : Nat} {a b : Int} (h : a ≤ f j ∧ f j ≤ b) (hb : BdOk bd f) : BdOk ((j, a, b) :: bd) f := by
  intro i l u e
  rw [lk_cons] at e
  split at e
  · rename_i q; cases e; subst q; exact h
  · exact hb i l u e
theorem i64_bd {x : Int} (h : I64 x) : -9223372036854775808 ≤ x ∧ x ≤ 9223372036854775807 := ⟨h.1, Int.le_of_lt_add_one (by have := h.2; show x < _; omega)⟩
theorem bd_all {y : Ins} {e : Nat → Int} (hy : y.wf) {n : Nat} (he : ∀ i, i + 8 < n → I64 (e i)) : BdOk (bdN n) (insI y e) := by
  obtain ⟨y0, y1, y2, y3, y4, y5, y6, y7⟩ := hy
  intro i l h hl
  obtain ⟨hi, rfl, rfl⟩ := bdN_ok hl
  have key : ∀ j, j < n → I64 (insI y e j) := by
    intro j hj
    match j with
    | 0 => exact y1
    | 1 => exact y2
    | 2 => exact y3
    | 3 => exact y4
    | 4 => exact y5
    | 5 => exact y6
    | 6 => exact y7
    | 7 => exact y0
    | i + 8 => exact he i hj
  exact i64_bd (key i hi)
/-- the class of an instruction: one that there is, or none -/
theorem by_class {op : Int} (ho : I64 op) {G : Prop} (h1 : ∀ k : Nat, k < 33 → op = k → G) (h2 : op ≤ -1 → G) (h3 : 33 ≤ op → G) : G := by
  by_cases c1 : op < 0
  · exact h2 (by omega)
  · by_cases c2 : 33 ≤ op
    · exact h3 c2
    · exact h1 op.toNat (by omega) (by omega)
theorem z64 : I64 0 := ⟨by decide, by decide⟩
def y0 : Ins := ⟨0, false, false, 0, 0, 0, 0, 0, 0, 0⟩
theorem y0_wf : y0.wf := by
  have h : I64 0 := ⟨by decide, by decide⟩
  exact ⟨h, h, h, h, h, h, h, h⟩
/-- for each class -/
def allK (t : Nat → Bool) : Nat → Nat → Bool
  | 0, _ => true
  | n + 1, k => match t k with
    | true => allK t n (k + 1)
    | false => false
theorem allK_ok {t : Nat → Bool} : ∀ {n k0 : Nat}, allK t n k0 = true → ∀ k, k0 ≤ k → k < k0 + n → t k = true
  | 0, k0, _, k, h1, h2 => by omega
  | n + 1, k0, h, k, h1, h2 => by
    unfold allK at h
    split at h
    · rename_i ht
      by_cases e : k = k0
      · subst e; exact ht
      · exact allK_ok h k (by omega) (by omega)
    · cases h
def bdK (lo hi : Int) (n : Nat) : List (Nat × Int × Int) := (7, lo, hi) :: bdN n
theorem bdK_ok {y : Ins} {e : Nat → Int} (hy : y.wf) {n : Nat} (he : ∀ i, i + 8 < n → I64 (e i)) {lo hi : Int} (h1 : lo ≤ y.op) (h2 : y.op ≤ hi) : BdOk (bdK lo hi n) (insI y e) := bd_cons ⟨h1, h2⟩ (bd_all hy he)
theorem inst_den {y : Ins} {e : Nat → Int} {t : Nat → Bool} {w : World} {op : SE} (h : op.int (insEnv y e t w) = y.op) (β : Lay) : (instS op).den (insEnv y e t w) β = some y.val := by
  show some (Value.agg #[.int .i64 (op.int (insEnv y e t w)), .bool y.x, .bool y.s, .int .i64 y.rd, .int .i64 y.rn, .int .i64 y.rm, .int .i64 y.ra, .int .i64 y.a, .int .i64 y.b, .int .i64 y.c]) = _
  rw [h]; rfl
theorem one_den {ρ : Env} {β : Lay} {x : SV} {v : Value} {r : List SV} {vs : List Value} (h : x.den ρ β = some v) (hr : denA ρ β r = some vs) : denA ρ β (x :: r) = some (v :: vs) := by unfold denA; rw [h, hr]
theorem int_s {ρ : Env} {β : Lay} {k : IntKind} {e : SE} {x : Int} (h : e.int ρ = x) : (SV.p (.c (.int k e))).den ρ β = some (.int k x) := by rw [← h]; rfl
theorem bool_s {ρ : Env} {β : Lay} {e : SE} {x : Bool} (h : e.tru ρ = x) : (SV.p (.c (.bool e))).den ρ β = some (.bool x) := by rw [← h]; rfl
/-- a contract at given arguments, by a fact about the values -/
theorem pat_s {cx : Ctx} {ρ : Env} {f : FuncId} {pat : List SV} {v : SV} {vals : List Value} {x : Value} (hp : ∀ β, denA ρ β pat = some vals) (hx : ∀ β, v.den ρ β = some x) (h : ∀ w, Calls cx.P f vals.toArray w (Ret x w)) : SumOk cx ρ f (patS pat v) := by
  refine patS_ok fun β vs w _ ha => ?_
  rw [hp] at ha
  cases ha
  exact ⟨x, hx β, h w⟩
end
end Sym
end Go.Proofs.YtopfaapcekiojaaGreat
