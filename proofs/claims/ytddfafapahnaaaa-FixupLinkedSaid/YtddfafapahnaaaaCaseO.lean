/- Arguments opened: structs that hold slices; a case of fixups. -/
import Derived.Test.YtddfafapahnaaaaOpen
import Derived.Test.YtddfafapahnaaaaSliceW
import Derived.Test.YtddfafapahnaaaaFixS
namespace Go.Proofs.Ytddfafapahnaaaa
open Go.ChangeShapes Go.WideShapes Go.ChangeAt Go.RowKit Go.Deep
set_option linter.unusedVariables false

/-- what is read at a type in a given world fits -/
def FlatAt (P : Program) (w : World) (spare : Nat → Bool) (held : Bool) (t : TypeId) (ks : List (Value → Prop)) : Prop := ∀ (H : Type) (enc : TypeId × Value → H) (fuel : Nat) (cs : List Value) (x : DataW H × List MemPlace), DataW.trod enc P w 0 spare held fuel t cs = some x → Fits ks cs
section
variable {P : Program} {w : World} {spare : Nat → Bool} {held : Bool}
theorem Flat.at {t : TypeId} {ks : List (Value → Prop)} (h : Flat P t ks) : FlatAt P w spare held t ks := fun H enc fuel cs x hx => h H enc w 0 spare held fuel cs x hx
/-- a slice of rows -/
def isRows (w : World) (ks : List (Value → Prop)) (v : Value) : Prop := ∃ A n c rows, v = .slice A n c ∧ RowsOf w A n ks rows ∧ n ≤ maxLen
theorem flatAt_slice {t e : TypeId} {ks : List (Value → Prop)} (ht : P.underlying t = some (.slice e)) (hk : Flat P e ks) (hc : P.cellsOf e = ks.length) (hpos : 0 < ks.length) : FlatAt P w spare held t [isRows w ks] := by
  intro H enc fuel cs x hx
  have key : ∀ A n c, cs = [.slice A n c] → Fits [isRows w ks] cs := by
    intro A n c e
    subst e
    obtain ⟨rows, h1, h2⟩ := open_rows (d := x.1) (p := x.2) ht hk hc hpos (A := A) (len := n) (cap := c) (H := H) (enc := enc) (w := w) (spare := spare) (held := held) ⟨fuel, by simpa [Value.cells] using hx⟩
    exact ⟨⟨A, n, c, rows, rfl, h1, h2⟩, trivial⟩
  rcases open_slice ht hx with ⟨hcs, _⟩ | ⟨a, len', cap', m, n, D, Pl, hcs, _⟩
  · exact key _ _ _ hcs
  · exact key _ _ _ hcs
def FlatFsAt (P : Program) (w : World) (spare : Nat → Bool) (held : Bool) : List Field → Nat → List (Value → Prop) → Prop
  | [], _, ks => ks = []
  | f :: fs, off, ks => ∃ k1 k2, ks = k1 ++ k2 ∧ f.offset = off ∧ P.cellsOf f.type = k1.length ∧ FlatAt P w spare held f.type k1 ∧ FlatFsAt P w spare held fs (off + k1.length) k2
theorem FlatFsAt.fits {H : Type} {enc : TypeId × Value → H} {n : Nat} {cs : List Value} :
    ∀ {fs : List Field} {off : Nat} {ks : List (Value → Prop)}, FlatFsAt P w spare held fs off ks → (∀ f ∈ fs, ∃ y, DataW.trod enc P w 0 spare held n f.type ((cs.drop f.offset).take (P.cellsOf f.type)) = some y) → cs.length = off + ks.length → Fits ks (cs.drop off)
  | [], off, ks, h, _, hl => by
    have h : ks = [] := h
    subst h
    rw [List.drop_eq_nil_of_le (by simp at hl; omega)]; trivial
  | f :: fs, off, ks, h, hy, hl => by
    obtain ⟨k1, k2, rfl, ho, hc, hf, hr⟩ := h
    obtain ⟨y, h1⟩ := hy f List.mem_cons_self
    rw [List.length_append] at hl
    have h2 := FlatFsAt.fits (cs := cs) hr (fun g hg => hy g (List.mem_cons_of_mem _ hg)) (by omega)
    have h3 := hf H enc n _ y h1
    rw [ho, hc] at h3
    have e : cs.drop off = (cs.drop off).take k1.length ++ cs.drop (off + k1.length) := by rw [← List.drop_drop, List.take_append_drop]
    rw [e]
    exact h3.append h2
theorem flatAt_struct {t : TypeId} {fs : Array Field} {ks : List (Value → Prop)} (ht : P.underlying t = some (.struct fs)) (hc : P.cellsOf t = ks.length) (h : FlatFsAt P w spare held fs.toList 0 ks) : FlatAt P w spare held t ks := fun H enc fuel cs x hx => by
  obtain ⟨xs, n, _, _, hl, hlen, hf⟩ := DataW.trod_struct ht hx
  have := FlatFsAt.fits (cs := cs) (H := H) (enc := enc) (w := w) (spare := spare) (held := held) (n := n) h (fun f hf' => by
    obtain ⟨i, hi, rfl⟩ := List.getElem_of_mem hf'
    have hi' : i < fs.size := by simpa using hi
    have := hf i fs[i] (by simp [hi'])
    rw [List.getElem?_eq_getElem (by rw [hlen]; exact hi')] at this
    exact ⟨_, by simpa using this⟩) (by rw [hl, hc]; omega)
  simpa using this
theorem flatAt_nil (off : Nat) : FlatFsAt P w spare held [] off [] := rfl
theorem flatAt_cons {f : Field} {fs : List Field} {off : Nat} {k1 k2 : List (Value → Prop)} (h1 : f.offset = off) (h2 : P.cellsOf f.type = k1.length) (h3 : FlatAt P w spare held f.type k1) (h4 : FlatFsAt P w spare held fs (off + k1.length) k2) : FlatFsAt P w spare held (f :: fs) off (k1 ++ k2) := ⟨k1, k2, rfl, h1, h2, h3, h4⟩
/-- a struct that is handed by value -/
theorem open_flatAt {H : Type} {enc : TypeId × Value → H} {r : Reach} {b0 : Nat} {t : TypeId} {fs : Array Field} {ks : List (Value → Prop)} {v : Value} {d : DataW H} {p : List MemPlace} (ht : P.underlying t = some (.struct fs)) (hk : FlatAt P w spare held t ks)
    (hv : Value.okWide P w r b0 t v) (h : DataW.Trod enc P w 0 spare held t v d p) : ∃ cs : List Value, v = .agg cs.toArray ∧ Fits ks cs := by
  obtain ⟨cs, rfl, _⟩ := okWide_struct ht hv
  obtain ⟨fuel, hf⟩ := h
  exact ⟨cs.toList, by simp, hk _ _ _ _ _ (by simpa [Value.cells] using hf)⟩
end
theorem srow_of {w : World} {A : Option Addr} {n : Nat} {rows : List (List Value)} (h : RowsOf w A n [isStr, isInt .i64, isInt .i64, isBool] rows) (hn : n ≤ maxLen) : ∃ l, SRow w A n l := by
  obtain ⟨h1, h2, h3⟩ := h
  have form : ∀ r : List Value, ∃ s : Sy, r ∈ rows → r = [.string s.1, .int .i64 s.2.1, .int .i64 s.2.2.1, .bool s.2.2.2] ∧ I64 s.2.1 ∧ I64 s.2.2.1 := fun r => by
    by_cases hr : r ∈ rows
    · obtain ⟨v0, r1, rfl, ⟨a, rfl, wa⟩, q1⟩ := fits_cons (h2 r hr)
      obtain ⟨v1, r2, rfl, ⟨b, rfl, wb⟩, q2⟩ := fits_cons q1
      obtain ⟨v2, r3, rfl, ⟨c, rfl, wc⟩, q3⟩ := fits_cons q2
      obtain ⟨v3, r4, rfl, ⟨d, rfl⟩, q4⟩ := fits_cons q3
      obtain rfl := fits_nil q4
      exact ⟨(a, b, c, d), fun _ => ⟨rfl, i64_wf wb, i64_wf wc⟩⟩
    · exact ⟨(⟨#[]⟩, 0, 0, false), fun h => absurd h hr⟩
  obtain ⟨g, hg⟩ := Classical.axiomOfChoice form
  refine ⟨rows.map g, by simpa using h1, hn, fun f hf => ?_, fun hn => ?_⟩
  · obtain ⟨r, hr, rfl⟩ := List.mem_map.1 hf
    exact (hg r hr).2
  · obtain ⟨b, off, rfl, hb, hc⟩ := h3 hn
    refine ⟨b, off, rfl, hb, fun k hk => ?_⟩
    have hk' : k < rows.length := by simpa using hk
    obtain ⟨e, _⟩ := hg rows[k] (List.getElem_mem hk')
    have c0 := hc k hk' 0 (by simp)
    have c1 := hc k hk' 1 (by simp)
    have c2 := hc k hk' 2 (by simp)
    have c3 := hc k hk' 3 (by simp)
    rw [e] at c0 c1 c2 c3
    rw [List.getElem_map]
    exact ⟨c0, c1, c2, c3⟩
theorem flatSy : Flat Try.prog 44 [isStr, isInt .i64, isInt .i64, isBool] :=
  flat_struct Try.underlying44 (by kernel_rfl) (flat_cons (k1 := [isStr]) rfl (by kernel_rfl) (flat_str Try.underlying9) (flat_cons (k1 := [isInt .i64]) rfl (by kernel_rfl) (flat_int Try.underlying3) (flat_cons (k1 := [isInt .i64]) rfl (by kernel_rfl) (flat_int Try.underlying2) (flat_cons (k1 := [isBool]) rfl (by kernel_rfl) (flat_bool Try.underlying4) (flat_nil _ _)))))
theorem flatVal : Flat Try.prog 23 [isInt .i64, isStr, isStr] :=
  flat_struct Try.underlying23 (by kernel_rfl) (flat_cons (k1 := [isInt .i64]) rfl (by kernel_rfl) (flat_int Try.underlying2) (flat_cons (k1 := [isStr]) rfl (by kernel_rfl) (flat_str Try.underlying9) (flat_cons (k1 := [isStr]) rfl (by kernel_rfl) (flat_str Try.underlying9) (flat_nil _ _))))
theorem flatHole : Flat Try.prog 25 [isInt .i64, isInt .i64, isInt .i64, isStr, isStr] :=
  flat_struct Try.underlying25 (by kernel_rfl) (flat_cons (k1 := [isInt .i64]) rfl (by kernel_rfl) (flat_int Try.underlying3) (flat_cons (k1 := [isInt .i64]) rfl (by kernel_rfl) (flat_int Try.underlying3) (flat_cons (k1 := [isInt .i64, isStr, isStr]) rfl (by kernel_rfl) flatVal (flat_nil _ _))))
theorem flatCase {w : World} {spare : Nat → Bool} {held : Bool} : FlatAt Try.prog w spare held 28 [isInt .i64, isInt .i64, isInt .i64, isStr, isStr, isInt .i64, isInt .i64, isRows w [isStr, isInt .i64, isInt .i64, isBool]] :=
  flatAt_struct Try.underlying28 (by kernel_rfl) (flatAt_cons (k1 := [isInt .i64, isInt .i64, isInt .i64, isStr, isStr]) rfl (by kernel_rfl) flatHole.at (flatAt_cons (k1 := [isInt .i64]) rfl (by kernel_rfl) (flat_int Try.underlying3).at (flatAt_cons (k1 := [isInt .i64]) rfl (by kernel_rfl) (flat_int Try.underlying2).at
    (flatAt_cons (k1 := [isRows w [isStr, isInt .i64, isInt .i64, isBool]]) rfl (by kernel_rfl) (flatAt_slice Try.underlying26 flatSy (by kernel_rfl) (by decide)) (flatAt_nil _)))))
set_option maxRecDepth 100000 in
theorem open_hole {w : World} {spare : Nat → Bool} {held : Bool} {H : Type} {enc : TypeId × Value → H} {r : Reach} {b0 : Nat} {v : Value} {d : DataW H} {p : List MemPlace} (hv : Value.okWide Try.prog w r b0 25 v) (h : DataW.Trod enc Try.prog w 0 spare held 25 v d p) :
    ∃ (kd sz add : Int) (pl mi : ByteArray), v = .agg #[.int .i64 kd, .int .i64 sz, .int .i64 add, .string pl, .string mi] ∧ I64 kd ∧ I64 sz ∧ I64 add := by
  obtain ⟨cs, rfl, hf⟩ := open_flatAt Try.underlying25 flatHole.at hv h
  obtain ⟨v0, r1, rfl, ⟨kd, rfl, w0⟩, q1⟩ := fits_cons hf
  obtain ⟨v1, r2, rfl, ⟨sz, rfl, w1⟩, q2⟩ := fits_cons q1
  obtain ⟨v2, r3, rfl, ⟨add, rfl, w2⟩, q3⟩ := fits_cons q2
  obtain ⟨v3, r4, rfl, ⟨pl, rfl, _⟩, q4⟩ := fits_cons q3
  obtain ⟨v4, r5, rfl, ⟨mi, rfl, _⟩, q5⟩ := fits_cons q4
  obtain rfl := fits_nil q5
  exact ⟨kd, sz, add, pl, mi, rfl, i64_wf w0, i64_wf w1, i64_wf w2⟩
set_option maxRecDepth 100000 in
theorem open_case {w : World} {spare : Nat → Bool} {held : Bool} {H : Type} {enc : TypeId × Value → H} {r : Reach} {b0 : Nat} {v : Value} {d : DataW H} {p : List MemPlace} (hv : Value.okWide Try.prog w r b0 28 v) (h : DataW.Trod enc Try.prog w 0 spare held 28 v d p) :
    ∃ (kd sz add : Int) (pl mi : ByteArray) (sec off : Int) (A : Option Addr) (n ca : Nat) (l : List Sy), v = .agg #[.int .i64 kd, .int .i64 sz, .int .i64 add, .string pl, .string mi, .int .i64 sec, .int .i64 off, .slice A n ca] ∧ (I64 kd ∧ I64 sz ∧ I64 add ∧ I64 sec ∧ I64 off) ∧ SRow w A n l := by
  obtain ⟨cs, rfl, hf⟩ := open_flatAt Try.underlying28 flatCase hv h
  obtain ⟨v0, r1, rfl, ⟨kd, rfl, w0⟩, q1⟩ := fits_cons hf
  obtain ⟨v1, r2, rfl, ⟨sz, rfl, w1⟩, q2⟩ := fits_cons q1
  obtain ⟨v2, r3, rfl, ⟨add, rfl, w2⟩, q3⟩ := fits_cons q2
  obtain ⟨v3, r4, rfl, ⟨pl, rfl, _⟩, q4⟩ := fits_cons q3
  obtain ⟨v4, r5, rfl, ⟨mi, rfl, _⟩, q5⟩ := fits_cons q4
  obtain ⟨v5, r6, rfl, ⟨sec, rfl, w5⟩, q6⟩ := fits_cons q5
  obtain ⟨v6, r7, rfl, ⟨off, rfl, w6⟩, q7⟩ := fits_cons q6
  obtain ⟨v7, r8, rfl, ⟨A, n, ca, rows, rfl, hR, hn⟩, q8⟩ := fits_cons q7
  obtain rfl := fits_nil q8
  obtain ⟨l, hl⟩ := srow_of hR hn
  exact ⟨kd, sz, add, pl, mi, sec, off, A, n, ca, l, rfl, ⟨i64_wf w0, i64_wf w1, i64_wf w2, i64_wf w5, i64_wf w6⟩, hl⟩
end Go.Proofs.Ytddfafapahnaaaa
