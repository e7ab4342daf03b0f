/- What lies in a block, whole. -/
import Derived.Test.YtddfafapahnaaaaBase
import Derived.Laws.Rows
import Derived.Laws.Tables
import Derived.Deep.MidRow
import Derived.Outline
import Derived.RangeFuncBox
namespace Go.Proofs.Ytddfafapahnaaaa
open Go.RowKit Go.Sort
set_option linter.unusedVariables false

/-- what lies in a block -/
def BlockIs (B : Nat) (l : List Value) (t : TypeId) (W : World) : Prop := W.heap[B]? = some (.cells l.toArray t (0, 0))
theorem BlockIs.lt {B : Nat} {l : List Value} {t : TypeId} {W : World} (h : BlockIs B l t W) : B < W.heap.size := (Array.getElem?_eq_some_iff.1 h).1
theorem BlockIs.cell {B : Nat} {l : List Value} {t : TypeId} {W : World} (h : BlockIs B l t W) (i : Nat) (v : Value) (hi : l[i]? = some v) : W.cell? ⟨B, i, none⟩ = some v ∧ W.frozen? ⟨B, i, none⟩ = false := by
  unfold BlockIs at h
  constructor
  · simp [World.cell?, h, hi]
  · simp [World.frozen?, h]
theorem BlockIs.below {B : Nat} {l : List Value} {t : TypeId} {W W' : World} (h : BlockIs B l t W) (hb : Below W.heap.size W W') : BlockIs B l t W' := (hb.block _ h.lt).trans h
theorem BlockIs.set {B : Nat} {l : List Value} {t : TypeId} {W : World} (h : BlockIs B l t W) (i : Nat) (v : Value) : BlockIs B (l.set i v) t (W.setCell ⟨B, i, none⟩ v) := by
  unfold BlockIs
  rw [heap_setCell_same W B i l.toArray t v h]
  simp
theorem BlockIs.other {B B' : Nat} {l : List Value} {t : TypeId} {W : World} (h : BlockIs B l t W) (hne : B ≠ B') (i : Nat) (v : Value) : BlockIs B l t (W.setCell ⟨B', i, none⟩ v) := (Below.heap_setCell W ⟨B', i, none⟩ v B hne).trans h
theorem BlockIs.alloc {B : Nat} {l : List Value} {t : TypeId} {W : World} (h : BlockIs B l t W) (o : Obj) : BlockIs B l t (W.alloc o) := (Below.heap_alloc W o B h.lt).trans h
theorem BlockIs.row {B : Nat} {l : List Value} {t : TypeId} {W : World} (h : BlockIs B l t W) (vs : List Value) (_ : vs.length = l.length) : BlockIs B vs t (W.setRow B vs.toArray) := by
  unfold BlockIs at *
  obtain ⟨hlt, he⟩ := Array.getElem?_eq_some_iff.1 h
  show (W.heap.modify B _)[B]? = _
  rw [Array.getElem?_eq_getElem (by rw [Array.size_modify]; exact hlt), Array.getElem_modify_self, he]
theorem below_row {B g : Nat} {w0 w : World} (h : Below B w0 w) (hg : B ≤ g) (cs : Array Value) : Below B w0 (w.setRow g cs) :=
  ⟨h.os, h.tape, h.output, by simpa [World.setRow] using h.size, fun k hk => by
    show (w.heap.modify g _)[k]? = _
    rw [Array.getElem?_modify, if_neg (by omega)]
    exact h.block k hk⟩
theorem BlockIs.there {B : Nat} {l : List Value} {t : TypeId} {W : World} (h : BlockIs B l t W) (o n : Nat) (hn : o + n ≤ l.length) : W.there B o n := fun j hj => by
  obtain ⟨c, f⟩ := h.cell (o + j) l[o + j] (by rw [List.getElem?_eq_getElem (by omega)])
  exact ⟨by rw [c]; rfl, f⟩
def setL : List Value → Nat → List Value → List Value
  | l, _, [] => l
  | l, o, v :: r => setL (l.set o v) (o + 1) r
theorem BlockIs.setCells {B : Nat} {t : TypeId} : ∀ {l : List Value} {W : World} (_ : BlockIs B l t W) (o : Nat) (vs : List Value), BlockIs B (setL l o vs) t (W.setCells B o vs)
  | _, _, h, _, [] => h
  | _, _, h, o, v :: r => BlockIs.setCells (h.set o v) (o + 1) r
theorem BlockIs.otherCells {B B' : Nat} {l : List Value} {t : TypeId} (hne : B ≠ B') : ∀ (vs : List Value) (o : Nat) {W : World} (_ : BlockIs B l t W), BlockIs B l t (W.setCells B' o vs)
  | [], _, _, h => h
  | v :: r, o, _, h => BlockIs.otherCells hne r (o + 1) (h.other hne o v)
theorem below_cells {B g : Nat} {w0 : World} (hg : B ≤ g) : ∀ (vs : List Value) (o : Nat) {w : World} (_ : Below B w0 w), Below B w0 (w.setCells g o vs)
  | [], _, _, h => h
  | v :: r, o, _, h => below_cells hg r (o + 1) (h.setCell hg v)
theorem BlockIs.otherRow {B g : Nat} {l : List Value} {t : TypeId} {W : World} (h : BlockIs B l t W) (hne : B ≠ g) (cs : Array Value) : BlockIs B l t (W.setRow g cs) := by
  unfold BlockIs at *
  show (W.heap.modify g _)[B]? = _
  rw [Array.getElem?_modify, if_neg (fun e => hne e.symm)]
  exact h
theorem BlockIs.new (W : World) (l : List Value) (t : TypeId) : BlockIs W.heap.size l t (W.alloc (.cells l.toArray t)) := World.alloc_heap_new W _
theorem blocks1 (w : World) (l1 : List Value) (t1 : TypeId) : ∃ W0, W0 = w.alloc (.cells l1.toArray t1) ∧ BlockIs w.heap.size l1 t1 W0 ∧ Below w.heap.size w W0 :=
  ⟨_, rfl, BlockIs.new w l1 t1, bnew _ _⟩
theorem blocks2 (w : World) (l1 : List Value) (t1 : TypeId) (l2 : List Value) (t2 : TypeId) : ∃ W0, W0 = (w.alloc (.cells l1.toArray t1)).alloc (.cells l2.toArray t2) ∧ BlockIs w.heap.size l1 t1 W0 ∧ BlockIs (w.heap.size + 1) l2 t2 W0 ∧ Below w.heap.size w W0 := by
  refine ⟨_, rfl, (BlockIs.new w l1 t1).alloc _, ?_, (bnew _ _).alloc (by simp) _⟩
  have := BlockIs.new (w.alloc (.cells l1.toArray t1)) l2 t2
  rw [World.size_alloc] at this
  exact this
theorem blocks3 (w : World) (l1 : List Value) (t1 : TypeId) (l2 : List Value) (t2 : TypeId) (l3 : List Value) (t3 : TypeId) : ∃ W0, W0 = ((w.alloc (.cells l1.toArray t1)).alloc (.cells l2.toArray t2)).alloc (.cells l3.toArray t3) ∧ BlockIs w.heap.size l1 t1 W0 ∧ BlockIs (w.heap.size + 1) l2 t2 W0 ∧ BlockIs (w.heap.size + 1 + 1) l3 t3 W0 ∧ Below w.heap.size w W0 := by
  obtain ⟨W1, h0, h1, h2, h3⟩ := blocks2 w l1 t1 l2 t2
  rw [← h0]
  refine ⟨_, rfl, h1.alloc _, h2.alloc _, ?_, h3.alloc h3.size _⟩
  have := BlockIs.new W1 l3 t3
  have hz : W1.heap.size = w.heap.size + 1 + 1 := by rw [h0, World.size_alloc, World.size_alloc]
  rw [hz] at this
  exact this
theorem results_row {P : Program} {fn : Func} {p q : Tmp} {ty : TypeId} (h : fn.results = #[.cell p ty, .tmp q]) (tmps : Array Value) (W : World) (B : Nat) (l : List Value) (e : Value) (d : TypeDesc)
    (hp : tmps.getD p undef = .pointer (some ⟨B, 0, none⟩)) (he : tmps.getD q undef = e) (hb : BlockIs B l ty W) (hu : P.underlying ty = some d) (hd : (match d with | .struct _ | .array _ _ => true | _ => false) = true) (hi : (P.info? ty).map (·.size) = some l.toArray.size) :
    (results fn tmps).run P W = .ok (.tuple #[.agg l.toArray, e]) W := by
  have hp' : tmps[p]?.getD undef = .pointer (some ⟨B, 0, none⟩) := by simpa using hp
  have he' : tmps[q]?.getD undef = e := by simpa using he
  have := run_loadVar_row (P := P) W B ty ty l.toArray (0, 0) d hb hu hd hi
  simp [results, h, hp', he', asAddr, this]
end Go.Proofs.Ytddfafapahnaaaa
