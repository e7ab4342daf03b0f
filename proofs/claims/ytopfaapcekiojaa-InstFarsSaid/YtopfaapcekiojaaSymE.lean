/- An operation of the executor does what the model's does. -/
import Derived.Test.YtopfaapcekiojaaSymD
namespace Go.Proofs.Ytopfaapcekiojaa.Sym
open Go Go.RowKit Go.Proofs.Ytopfaapcekiojaa

section
variable {cx : Ctx} {ρ : Env} {B : Nat} {w0 w : World} {L : Lst} {β : Lay} {s : St} {pc : PC} {o : Oper} {ev : Operand → Value}
theorem strip_ok (hpc : PcOk ρ pc) {v : SV} {x : SP} (h : strip pc v = some x) {u : Value} (hv : v.den ρ β = some u) : x.den ρ β = some u := by
  unfold strip at h
  split at h
  · cases h; exact hv
  · split at h
    · rename_i hd
      cases h
      have := dec_ok hpc hd
      simpa [SV.den, this] using hv
    · cases h
  · cases h
/-- the operand's value is what the executor holds for it -/
def EvOk (ρ : Env) (β : Lay) (s : St) (ev : Operand → Value) (x : Operand) : Prop := ∀ v, opv s x = some v → v.den ρ β = some (ev x)
theorem opp_ok (hpc : PcOk ρ pc) {x : Operand} {v : SP} (he : EvOk ρ β s ev x) (h : opp s pc x = some v) : v.den ρ β = some (ev x) := by
  unfold opp at h
  split at h
  · rename_i u hu; exact strip_ok hpc h (he u hu)
  · cases h
theorem opc_ok (hpc : PcOk ρ pc) {x : Operand} {v : SC} (he : EvOk ρ β s ev x) (h : opc s pc x = some v) : v.den ρ β = some (ev x) := by
  unfold opc at h
  split at h
  · rename_i u hu; cases h; exact opp_ok hpc he hu
  · cases h
theorem ptr_ok {b off : Nat} {u : Value} (h : (SC.ptr b off).den ρ β = some u) : ∃ ad cap, β b = some (ad, cap) ∧ u = .pointer (some ⟨ad, off, none⟩) := by
  simp only [SC.den] at h
  cases hb : β b with
  | none => simp [hb] at h
  | some x => rw [hb] at h; cases h; exact ⟨x.1, x.2, rfl, rfl⟩
theorem litP_ok (hpc : PcOk ρ pc) {x : SP} {j : Nat} (h : litP pc x = some j) {u : Value} (hv : x.den ρ β = some u) : ∃ k, u = .int k (j : Int) := by
  unfold litP at h
  split at h
  · rename_i k e
    split at h
    · rename_i m hm
      cases h
      have := evalE_ok hpc hm
      cases hv
      exact ⟨k, by rw [this]; rfl⟩
    · cases h
  · cases h
theorem bind_litP {x : Option SP} {j : Nat} (h : x.bind (litP pc) = some j) : ∃ y, x = some y ∧ litP pc y = some j := by
  cases x with
  | none => cases h
  | some y => exact ⟨y, rfl, h⟩
/-- the operations that lay blocks or write -/
def Lays (o : Oper) : Prop := laysB o = true
/-- what is claimed of an operation -/
def Does (cx : Ctx) (ρ : Env) (B : Nat) (w0 : World) (L : Lst) (β : Lay) (w : World) (ev : Operand → Value) (o : Oper) (v : SV) (H : List (Nat × Blk)) (n : Nat) : Prop :=
  ∃ β' w' x, β.le β' ∧ v.den ρ β' = some x ∧ WR cx.P ρ B w0 L β' H n w' ∧ ((execOp ev o).run cx.P w = .ok (.value x) w' ∨ ((execOp ev o).run cx.P w = .ok .skip w' ∧ x = Go.undef)) ∧ (((execOp ev o).run cx.P w = .ok (.value x) w' ∧ w' = w ∧ β' = β) ∨ Lays o)
theorem does_value (hW : WR cx.P ρ B w0 L β s.H s.n w) {v : SV} {x : Value} (hv : v.den ρ β = some x) (hr : (execOp ev o).run cx.P w = .ok (.value x) w) : Does cx ρ B w0 L β w ev o v s.H s.n :=
  ⟨β, w, x, Lay.le_refl _, hv, hW, .inl hr, .inl ⟨hr, rfl, rfl⟩⟩
theorem run_typeInfo' {P : Program} {t : TypeId} {i : TypeInfo} (h : P.info? t = some i) (w : World) : (typeInfo t).run P w = .ok i w := by simp [typeInfo, h]
theorem zeroS_ok {P : Program} {t : TypeId} {z : SP} (h : zeroS P t = some z) (w : World) : ∃ x, (zeroValue t).run P w = .ok x w ∧ z.den ρ β = some x ∧ ∃ i, P.info? t = some i ∧ i.zero = some x := by
  unfold zeroS at h
  split at h
  · rename_i i hi
    split at h
    · rename_i v hv
      exact ⟨v, by simp [zeroValue, typeInfo, hi, hv], absP_ok h, i, hi, hv⟩
    · cases h
  · cases h
theorem newVar_ok (ok : cx.Ok ρ) (hW : WR cx.P ρ B w0 L β s.H s.n w) {z : SP} {x : Value} (hz : z.den ρ β = some x) (t : TypeId) :
    ∃ w', (newVar t x).run cx.P w = .ok ⟨w.heap.size, 0, none⟩ w' ∧ WR cx.P ρ B w0 L (β.put s.n (w.heap.size, 0)) ((s.n, { cells := z.cells, ty := t }) :: s.H) (s.n + 1) w' := by
  obtain ⟨cs, hcs, hx⟩ := SP.cells_ok ok hz
  refine ⟨w.alloc (.cells cs.toArray t), ?_, hW.alloc hcs t⟩
  unfold newVar newRow
  rw [hx]
  simp
theorem den_new (ρ : Env) (β : Lay) (n ad off : Nat) : (SV.p (.c (.ptr n off))).den ρ (β.put n (ad, 0)) = some (.pointer (some ⟨ad, off, none⟩)) := by
  simp [SV.den, SP.den, SC.den, Lay.put]
theorem opAlloc_ok (ok : cx.Ok ρ) (hW : WR cx.P ρ B w0 L β s.H s.n w) {t : TypeId} (ho : o.op = .alloc t) {z : SP} (hz : zeroS cx.P t = some z) :
    Does cx ρ B w0 L β w ev o (.p (.c (.ptr s.n 0))) ((s.n, { cells := z.cells, ty := t }) :: s.H) (s.n + 1) := by
  obtain ⟨x, hx, hd, _⟩ := zeroS_ok (ρ := ρ) (β := β) hz w
  obtain ⟨w', hr, hW'⟩ := newVar_ok ok hW hd t
  refine ⟨_, w', _, Lay.le_put hW.fresh _, den_new ρ β s.n w.heap.size 0, hW', .inl ?_, .inr (by unfold Lays laysB; rw [ho])⟩
  simp [execOp, ho, Instr.alloc, hx, hr]
theorem opBox_ok (ok : cx.Ok ρ) (hW : WR cx.P ρ B w0 L β s.H s.n w) {t : TypeId} {y : Operand} (ho : o.op = .box t y) {z : SP} (hz : z.den ρ β = some (ev y)) :
    Does cx ρ B w0 L β w ev o (.p (.c (.ptr s.n 0))) ((s.n, { cells := z.cells, ty := t }) :: s.H) (s.n + 1) := by
  obtain ⟨w', hr, hW'⟩ := newVar_ok ok hW hz t
  refine ⟨_, w', _, Lay.le_put hW.fresh _, den_new ρ β s.n w.heap.size 0, hW', .inl ?_, .inr (by unfold Lays laysB; rw [ho])⟩
  simp [execOp, ho, Instr.box, hr]
theorem opLoad_ok (hW : WR cx.P ρ B w0 L β s.H s.n w) {t : TypeId} {y : Operand} (ho : o.op = .load t y) {b off : Nat} (hy : (SC.ptr b off).den ρ β = some (ev y)) {v : SP} (hl : loadS cx.P s.H t b off = some v) :
    Does cx ρ B w0 L β w ev o (.p v) s.H s.n := by
  obtain ⟨ad, cap, hb, he⟩ := ptr_ok hy
  obtain ⟨ad', cap', x, hb', hr, hx⟩ := hW.load hl
  rw [hb] at hb'; cases hb'
  refine does_value hW (v := .p v) hx ?_
  simp [execOp, ho, he, Instr.loadAt, Instr.sureAddr, hr]
theorem opStore_ok (ok : cx.Ok ρ) (hW : WR cx.P ρ B w0 L β s.H s.n w) {t : TypeId} {a y : Operand} (ho : o.op = .store t a y) {b off : Nat} (ha : (SC.ptr b off).den ρ β = some (ev a)) {v : SP} (hy : v.den ρ β = some (ev y))
    {k : Blk} (hk : lk s.H b = some k) (hs : v.cells.length = cx.P.cellsOf t) (hs0 : 0 < v.cells.length) (hle : off + v.cells.length ≤ k.cells.length) :
    Does cx ρ B w0 L β w ev o .undef (setH s.H b { k with cells := splice k.cells off v.cells }) s.n := by
  obtain ⟨ad, cap, hb, he⟩ := ptr_ok ha
  have hi : ∃ i, cx.P.info? t = some i := by
    cases hi : cx.P.info? t with
    | none =>
      have : cx.P.cellsOf t = 0 := by unfold Program.cellsOf; simp [hi]
      omega
    | some i => exact ⟨i, rfl⟩
  obtain ⟨ad', cap', w', hb', hr, hW'⟩ := hW.store ok hk hy hs hle hi
  rw [hb] at hb'; cases hb'
  refine ⟨β, w', Go.undef, Lay.le_refl _, rfl, hW', .inr ⟨?_, rfl⟩, .inr (by unfold Lays laysB; rw [ho])⟩
  simp [execOp, ho, he, Instr.storeAt, Instr.sureAddr, hr]
theorem opNil_ok (hW : WR cx.P ρ B w0 L β s.H s.n w) {a : Operand} (ho : o.op = .nilCheck a) {b off : Nat} (ha : (SC.ptr b off).den ρ β = some (ev a)) :
    Does cx ρ B w0 L β w ev o (.p (.c (.ptr b off))) s.H s.n := by
  obtain ⟨ad, cap, hb, he⟩ := ptr_ok ha
  refine does_value hW (x := ev a) ha ?_
  simp [execOp, ho, he]
theorem opPick_ok (hW : WR cx.P ρ B w0 L β s.H s.n w) {c a b : Operand} (ho : o.op = .pick c a b) {t : Bool} (hc : ev c = .bool t) {v : SV} (hv : v.den ρ β = some (if t then ev a else ev b)) :
    Does cx ρ B w0 L β w ev o v s.H s.n := by
  refine does_value hW hv ?_
  simp [execOp, ho, hc, asBool]
theorem opMove_ok (hW : WR cx.P ρ B w0 L β s.H s.n w) {a : Operand} (ho : o.op = .move a ∨ o.op = .assign a) {v : SV} (hv : v.den ρ β = some (ev a)) :
    Does cx ρ B w0 L β w ev o v s.H s.n := by
  refine does_value hW hv ?_
  rcases ho with ho | ho <;> simp [execOp, ho]
theorem opUnNot_ok (hW : WR cx.P ρ B w0 L β s.H s.n w) {a : Operand} {t : TypeId} (ho : o.op = .unOp .not t a) {e : SE} (ha : (SC.bool e).den ρ β = some (ev a)) :
    Does cx ρ B w0 L β w ev o (.p (.c (.bool (mkNot e)))) s.H s.n := by
  have he : ev a = .bool (e.tru ρ) := (Option.some.inj ha).symm
  refine does_value hW (x := .bool (!e.tru ρ)) (by simp [SV.den, SP.den, SC.den, mkNot_ok]) ?_
  simp [execOp, ho, he, Op.unary]
theorem opUnNeg_ok (hpc : PcOk ρ pc) (hW : WR cx.P ρ B w0 L β s.H s.n w) {a : Operand} {t : TypeId} (ho : o.op = .unOp .neg t a) {k : IntKind} {e : SE} (ha : (SC.int k e).den ρ β = some (ev a)) :
    Does cx ρ B w0 L β w ev o (.p (.c (.int k (mkWrap pc k (mkSub (.lit 0) e))))) s.H s.n := by
  have he : ev a = .int k (e.int ρ) := (Option.some.inj ha).symm
  refine does_value hW (x := .int k (k.wrap (0 - e.int ρ))) (by simp only [SV.den, SP.den, SC.den, mkWrap_ok hpc, mkSub_ok]; rfl) ?_
  simp only [execOp, ho, he, Op.unary, Op.intArith]
  rfl
theorem opConv_ok (hpc : PcOk ρ pc) (hW : WR cx.P ρ B w0 L β s.H s.n w) {a : Operand} {src dst : TypeId} (ho : o.op = .convert src dst a) {k k' : IntKind} {d : TypeDesc} {e : SE} (hs : cx.P.underlying src = some d) (hd : cx.P.underlying dst = some (.int k))
    (ha : (SC.int k' e).den ρ β = some (ev a)) : Does cx ρ B w0 L β w ev o (.p (.c (.int k (mkWrap pc k e)))) s.H s.n := by
  have he : ev a = .int k' (e.int ρ) := (Option.some.inj ha).symm
  refine does_value hW (x := .int k (k.wrap (e.int ρ))) (by simp [SV.den, SP.den, SC.den, mkWrap_ok hpc]) ?_
  have h1 := run_underlying hs w
  have h2 := run_underlying hd w
  simp only [execOp, ho, convert, Sem.run_bind, h1, h2, Result.andThen_ok, he]
  cases d <;> simp [Conv.intToInt]
theorem opMake_ok (hW : WR cx.P ρ B w0 L β s.H s.n w) {f : FuncId} {first captured : Array Operand} (ho : o.op = .makeFunc (.func f) first captured) {a b : List (Nat × Nat)}
    (ha : ptrs β a = some (first.toList.map ev)) (hb : ptrs β b = some (captured.toList.map ev)) : Does cx ρ B w0 L β w ev o (.p (.c (.fn f a b))) s.H s.n := by
  refine does_value hW (x := .func (.func f) (first.map ev) (captured.map ev)) ?_ ?_
  · simp only [SV.den, SP.den, SC.den, ha, hb]
    congr 2 <;> (apply Array.ext'; simp)
  · simp [execOp, ho, Instr.makeFunc]
theorem opFieldAddr_ok (hW : WR cx.P ρ B w0 L β s.H s.n w) {a : Operand} {t : TypeId} {i : Nat} (ho : o.op = .fieldAddr t a i) {b off : Nat} (ha : (SC.ptr b off).den ρ β = some (ev a)) {fs : Array Field} {f : Field}
    (hu : cx.P.underlying t = some (.struct fs)) (hf : fs[i]? = some f) (hz : cx.P.cellsOf f.type ≠ 0) : Does cx ρ B w0 L β w ev o (.p (.c (.ptr b (off + f.offset)))) s.H s.n := by
  obtain ⟨ad, cap, hb, he⟩ := ptr_ok ha
  have hi : ∃ i, cx.P.info? f.type = some i := by
    unfold Program.cellsOf at hz
    cases hi : cx.P.info? f.type with
    | none => simp [hi] at hz
    | some i => exact ⟨i, rfl⟩
  obtain ⟨i', hi⟩ := hi
  refine does_value hW (x := .pointer (some ⟨ad, off + f.offset, none⟩)) (by simp [SV.den, SP.den, SC.den, hb]) ?_
  simp only [execOp, ho, Instr.fieldAt, Sem.run_bind, run_underlying hu w, Result.andThen_ok, hf, he, Instr.sureAddr, Sem.run_pure, fieldPlace, run_sizeOf w hi, if_neg hz, add_lit']
theorem run_partS {P : Program} {t : TypeId} {l : List SC} {off : Nat} {v : SP} (h : partS P t l off = some v) {cs : List Value} (hd : denL ρ β l = some cs) (w : World) : ∃ x, (part t cs.toArray off).run P w = .ok x w ∧ v.den ρ β = some x := by
  unfold partS at h
  split at h
  · rename_i ha
    obtain ⟨hagg, i, hi⟩ := run_isAggT ha w
    split at h
    · cases h
      refine ⟨.agg ((cs.drop off).take (P.cellsOf t)).toArray, ?_, by simp [SP.den, denL_take (denL_drop hd off)]⟩
      simp [part, Sem.run_bind, hagg, run_sizeOf w hi]
    · cases h
  · rename_i ha
    obtain ⟨hagg, i, hi⟩ := run_isAggT ha w
    cases hx : l[off]? with
    | none => simp [hx] at h
    | some x =>
      rw [hx] at h; cases h
      obtain ⟨u, hu, hv⟩ := denL_get hd hx
      exact ⟨u, by simp [part, Sem.run_bind, hagg, hv], hu⟩
  · cases h
theorem agg_ok {l : List SC} {u : Value} (h : (SP.agg l).den ρ β = some u) : ∃ cs, denL ρ β l = some cs ∧ u = .agg cs.toArray := by
  simp only [SP.den] at h
  cases hl : denL ρ β l with
  | none => simp [hl] at h
  | some y => rw [hl] at h; cases h; exact ⟨y, rfl, rfl⟩
theorem opField_ok (hW : WR cx.P ρ B w0 L β s.H s.n w) {a : Operand} {t : TypeId} {i : Nat} (ho : o.op = .field t a i) {l : List SC} (ha : (SP.agg l).den ρ β = some (ev a)) {fs : Array Field} {f : Field}
    (hu : cx.P.underlying t = some (.struct fs)) (hf : fs[i]? = some f) {v : SP} (hp : partS cx.P f.type l f.offset = some v) : Does cx ρ B w0 L β w ev o (.p v) s.H s.n := by
  obtain ⟨cs, hcs, he⟩ := agg_ok ha
  obtain ⟨x, hr, hx⟩ := run_partS hp hcs w
  refine does_value hW (v := .p v) hx ?_
  simp only [execOp, ho, Instr.field, Sem.run_bind, run_underlying hu w, Result.andThen_ok, hf, he, asAgg, Sem.run_pure, hr]
theorem opIndexAddrA_ok (hW : WR cx.P ρ B w0 L β s.H s.n w) {a y : Operand} {t : TypeId} (ho : o.op = .indexAddr t a y) {b off : Nat} (ha : (SC.ptr b off).den ρ β = some (ev a)) {k : IntKind} {j len : Nat} {e : TypeId} (hy : ev y = .int k j)
    (hu : cx.P.underlying t = some (.array len e)) (hj : j < len) (hi : ∃ i, cx.P.info? e = some i) : Does cx ρ B w0 L β w ev o (.p (.c (.ptr b (off + j * cx.P.cellsOf e)))) s.H s.n := by
  obtain ⟨ad, cap, hb, he⟩ := ptr_ok ha
  obtain ⟨i, hi⟩ := hi
  refine does_value hW (x := .pointer (some ⟨ad, off + j * cx.P.cellsOf e, none⟩)) (by simp [SV.den, SP.den, SC.den, hb]) ?_
  simp only [execOp, ho, Instr.indexAt, hy, asIntOf, Sem.run_bind, Sem.run_pure, Result.andThen_ok, run_underlying hu w, he, Instr.sureAddr]
  rw [if_pos ⟨by omega, by omega⟩]
  simp [run_sizeOf w hi, add_lit']
theorem opIndexAddrS_ok (hW : WR cx.P ρ B w0 L β s.H s.n w) {a y : Operand} {t : TypeId} (ho : o.op = .indexAddr t a y) {ad off len cap : Nat} (he : ev a = .slice (some ⟨ad, off, none⟩) len cap) {k : IntKind} {j : Nat} {e : TypeId} (hy : ev y = .int k j)
    (hu : cx.P.underlying t = some (.slice e)) (hj : j < len) (hi : ∃ i, cx.P.info? e = some i) {v : SV} (hv : v.den ρ β = some (.pointer (some ⟨ad, off + j * cx.P.cellsOf e, none⟩))) : Does cx ρ B w0 L β w ev o v s.H s.n := by
  obtain ⟨i, hi⟩ := hi
  refine does_value hW hv ?_
  simp only [execOp, ho, Instr.indexAt, hy, asIntOf, Sem.run_bind, Sem.run_pure, Result.andThen_ok, run_underlying hu w, he]
  rw [if_pos ⟨by omega, by omega⟩]
  simp [run_sizeOf w hi, add_lit']
theorem opIndexA_ok (hW : WR cx.P ρ B w0 L β s.H s.n w) {a y : Operand} {t : TypeId} (ho : o.op = .index t a y) {l : List SC} (ha : (SP.agg l).den ρ β = some (ev a)) {k : IntKind} {j len : Nat} {e : TypeId} (hy : ev y = .int k j)
    (hu : cx.P.underlying t = some (.array len e)) (hj : j < len) (hi : ∃ i, cx.P.info? e = some i) {v : SP} (hp : partS cx.P e l (j * cx.P.cellsOf e) = some v) : Does cx ρ B w0 L β w ev o (.p v) s.H s.n := by
  obtain ⟨cs, hcs, he⟩ := agg_ok ha
  obtain ⟨x, hr, hx⟩ := run_partS hp hcs w
  obtain ⟨i, hi⟩ := hi
  refine does_value hW (v := .p v) hx ?_
  simp only [execOp, ho, Instr.index, hy, asIntOf, Sem.run_bind, Sem.run_pure, Result.andThen_ok, run_underlying hu w, he]
  rw [if_pos ⟨by omega, by omega⟩]
  simp [run_sizeOf w hi, hr]
theorem opIndexT_ok (hW : WR cx.P ρ B w0 L β s.H s.n w) {a y : Operand} {t : TypeId} (ho : o.op = .index t a y) {z : ByteArray} (ha : ev a = .string z) {k : IntKind} {j : Nat} (hy : ev y = .int k j)
    (hu : cx.P.underlying t = some .string) {b : UInt8} (hb : z.data.toList[j]? = some b) : Does cx ρ B w0 L β w ev o (.p (.c (.int .u8 (.lit b.toNat)))) s.H s.n := by
  refine does_value hW (x := .int .u8 b.toNat) rfl ?_
  have hz : z[j]? = some b := by
    have hlt : j < z.data.size := by
      rcases Nat.lt_or_ge j z.data.size with h | h
      · exact h
      · rw [List.getElem?_eq_none (by simpa using h)] at hb; cases hb
    rw [getElem?_pos z j hlt]
    congr 1
    rw [List.getElem?_eq_getElem (by simpa using hlt)] at hb
    cases hb
    rfl
  simp only [execOp, ho, Instr.index, hy, asIntOf, Sem.run_bind, Sem.run_pure, Result.andThen_ok, run_underlying hu w, ha]
  rw [if_pos (by omega)]
  simp [hz]
theorem denP_get {β : Lay} : ∀ {l : List SP} {vs : List Value}, denP ρ β l = some vs → ∀ {i : Nat} {x : SP}, l[i]? = some x → ∃ v, x.den ρ β = some v ∧ vs[i]? = some v
  | [], _, _, _, _, hi => by simp at hi
  | y :: r, vs, e, i, x, hi => by
    unfold denP at e
    cases hx : y.den ρ β with
    | none => simp [hx] at e
    | some v =>
      cases hr : denP ρ β r with
      | none => simp [hx, hr] at e
      | some l =>
        simp only [hx, hr] at e; cases e
        cases i with
        | zero => simp at hi; subst hi; exact ⟨v, hx, rfl⟩
        | succ i => simp at hi; obtain ⟨u, hu, hv⟩ := denP_get hr hi; exact ⟨u, hu, by simpa using hv⟩
theorem opExtract_ok (hW : WR cx.P ρ B w0 L β s.H s.n w) {a : Operand} {i : Nat} (ho : o.op = .extract a i) {l : List SP} (ha : (SV.tup l).den ρ β = some (ev a)) {v : SP} (hl : l[i]? = some v) : Does cx ρ B w0 L β w ev o (.p v) s.H s.n := by
  simp only [SV.den] at ha
  cases hd : denP ρ β l with
  | none => simp [hd] at ha
  | some vs =>
    rw [hd] at ha
    have he : ev a = .tuple vs.toArray := (Option.some.inj ha).symm
    obtain ⟨x, hx, hv⟩ := denP_get hd hl
    refine does_value hW (v := .p v) hx ?_
    simp [execOp, ho, he, Instr.extract, hv]
end
end Go.Proofs.Ytopfaapcekiojaa.Sym
