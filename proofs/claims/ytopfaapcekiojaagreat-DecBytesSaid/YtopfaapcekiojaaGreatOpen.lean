/- Arguments opened: a value of a type whose cells are integers, truths and strings, cell by cell; slices of such. -/
import Derived.Test.YtopfaapcekiojaaGreatBase
import Derived.ProofKit
import Derived.OpenShut
import Derived.Deep.Slices
import Derived.Lib.SmallJoins
namespace Go.Proofs.YtopfaapcekiojaaGreat
open Go.ChangeShapes Go.WideShapes Go.ChangeAt Go.RowKit Go.Deep
set_option linter.unusedVariables false

def isInt (k : IntKind) (v : Value) : Prop := ∃ n, v = .int k n ∧ (Lit.int k n).wf = true
def isBool (v : Value) : Prop := ∃ b, v = .bool b
def isStr (v : Value) : Prop := ∃ s : ByteArray, v = .string s ∧ s.size ≤ maxLen
/-- cell by cell -/
def Fits : List (Value → Prop) → List Value → Prop
  | [], [] => True
  | k :: ks, v :: vs => k v ∧ Fits ks vs
  | _, _ => False
theorem Fits.length : ∀ {ks : List (Value → Prop)} {vs : List Value}, Fits ks vs → vs.length = ks.length
  | [], [], _ => rfl
  | _ :: _, _ :: _, h => by simp [Fits.length h.2]
  | [], _ :: _, h => h.elim
  | _ :: _, [], h => h.elim
theorem Fits.append : ∀ {ks ks' : List (Value → Prop)} {vs vs' : List Value}, Fits ks vs → Fits ks' vs' → Fits (ks ++ ks') (vs ++ vs')
  | [], _, [], _, _, h => h
  | _ :: _, _, _ :: _, _, h, h' => ⟨h.1, Fits.append h.2 h'⟩
  | [], _, _ :: _, _, h, _ => h.elim
  | _ :: _, _, [], _, h, _ => h.elim
theorem fits_nil {vs : List Value} (h : Fits [] vs) : vs = [] := by
  cases vs with
  | nil => rfl
  | cons v vs => exact h.elim
theorem fits_cons {k : Value → Prop} {ks : List (Value → Prop)} {vs : List Value} (h : Fits (k :: ks) vs) : ∃ v r, vs = v :: r ∧ k v ∧ Fits ks r := by
  cases vs with
  | nil => exact h.elim
  | cons v vs => exact ⟨v, vs, rfl, h.1, h.2⟩
/-- what is read at a type fits -/
def Flat (P : Program) (t : TypeId) (ks : List (Value → Prop)) : Prop := ∀ (H : Type) (enc : TypeId × Value → H) (w : World) (base : Nat) (spare : Nat → Bool) (held : Bool) (fuel : Nat) (cs : List Value) (x : DataW H × List MemPlace), DataW.trod enc P w base spare held fuel t cs = some x → Fits ks cs
theorem flat_int {P : Program} {t : TypeId} {k : IntKind} (ht : P.underlying t = some (.int k)) : Flat P t [isInt k] := fun H enc w base spare held fuel cs x h => by
  obtain ⟨n, rfl, _, hw⟩ := DataW.trod_int ht h
  exact ⟨⟨n, rfl, hw⟩, trivial⟩
theorem flat_bool {P : Program} {t : TypeId} (ht : P.underlying t = some .bool) : Flat P t [isBool] := fun H enc w base spare held fuel cs x h => by
  obtain ⟨n, rfl, _⟩ := DataW.trod_bool ht h
  exact ⟨⟨n, rfl⟩, trivial⟩
theorem flat_str {P : Program} {t : TypeId} (ht : P.underlying t = some .string) : Flat P t [isStr] := fun H enc w base spare held fuel cs x h => by
  obtain ⟨n, rfl, _, hw⟩ := DataW.trod_string ht h
  exact ⟨⟨n, rfl, hw⟩, trivial⟩
/-- a struct's fields, one behind the other -/
def FlatFs (P : Program) : List Field → Nat → List (Value → Prop) → Prop
  | [], _, ks => ks = []
  | f :: fs, off, ks => ∃ k1 k2, ks = k1 ++ k2 ∧ f.offset = off ∧ P.cellsOf f.type = k1.length ∧ Flat P f.type k1 ∧ FlatFs P fs (off + k1.length) k2
theorem FlatFs.fits {P : Program} {H : Type} {enc : TypeId × Value → H} {w : World} {base : Nat} {spare : Nat → Bool} {held : Bool} {n : Nat} {cs : List Value} :
    ∀ {fs : List Field} {off : Nat} {ks : List (Value → Prop)}, FlatFs P fs off ks → (∀ f ∈ fs, ∃ y, DataW.trod enc P w base spare held n f.type ((cs.drop f.offset).take (P.cellsOf f.type)) = some y) → cs.length = off + ks.length → Fits ks (cs.drop off)
  | [], off, ks, h, _, hl => by
    have h : ks = [] := h
    subst h
    rw [List.drop_eq_nil_of_le (by simp at hl; omega)]; trivial
  | f :: fs, off, ks, h, hy, hl => by
    obtain ⟨k1, k2, rfl, ho, hc, hf, hr⟩ := h
    obtain ⟨y, h1⟩ := hy f List.mem_cons_self
    rw [List.length_append] at hl
    have h2 := FlatFs.fits (cs := cs) hr (fun g hg => hy g (List.mem_cons_of_mem _ hg)) (by omega)
    have h3 := hf H enc w base spare held n _ y h1
    rw [ho, hc] at h3
    have e : cs.drop off = (cs.drop off).take k1.length ++ cs.drop (off + k1.length) := by rw [← List.drop_drop, List.take_append_drop]
    rw [e]
    exact h3.append h2
theorem flat_struct {P : Program} {t : TypeId} {fs : Array Field} {ks : List (Value → Prop)} (ht : P.underlying t = some (.struct fs)) (hc : P.cellsOf t = ks.length) (h : FlatFs P fs.toList 0 ks) : Flat P t ks := fun H enc w base spare held fuel cs x hx => by
  obtain ⟨xs, n, _, _, hl, hlen, hf⟩ := DataW.trod_struct ht hx
  have := FlatFs.fits (cs := cs) (H := H) (enc := enc) (w := w) (base := base) (spare := spare) (held := held) (n := n) h (fun f hf' => by
    obtain ⟨i, hi, rfl⟩ := List.getElem_of_mem hf'
    have hi' : i < fs.size := by simpa using hi
    have := hf i fs[i] (by simp [hi'])
    rw [List.getElem?_eq_getElem (by rw [hlen]; exact hi')] at this
    exact ⟨_, by simpa using this⟩) (by rw [hl, hc]; omega)
  simpa using this
theorem flat_nil (P : Program) (off : Nat) : FlatFs P [] off [] := rfl
theorem flat_cons {P : Program} {f : Field} {fs : List Field} {off : Nat} {k1 k2 : List (Value → Prop)} (h1 : f.offset = off) (h2 : P.cellsOf f.type = k1.length) (h3 : Flat P f.type k1) (h4 : FlatFs P fs (off + k1.length) k2) : FlatFs P (f :: fs) off (k1 ++ k2) := ⟨k1, k2, rfl, h1, h2, h3, h4⟩

section
variable {P : Program} {H : Type} {enc : TypeId × Value → H} {w : World} {spare : Nat → Bool} {held : Bool}
/-- a struct that is handed by value -/
theorem open_flat {r : Reach} {b0 base : Nat} {t : TypeId} {fs : Array Field} {ks : List (Value → Prop)} {v : Value} {d : DataW H} {p : List MemPlace} (ht : P.underlying t = some (.struct fs)) (hk : Flat P t ks)
    (hv : Value.okWide P w r b0 t v) (h : DataW.Trod enc P w base spare held t v d p) : ∃ cs : List Value, v = .agg cs.toArray ∧ Fits ks cs := by
  obtain ⟨cs, rfl, _⟩ := okWide_struct ht hv
  obtain ⟨fuel, hf⟩ := h
  exact ⟨cs.toList, by simp, hk _ _ _ _ _ _ _ _ _ (by simpa [Value.cells] using hf)⟩
/-- a slice's elements, cell by cell -/
def RowsOf (w : World) (A : Option Addr) (n : Nat) (ks : List (Value → Prop)) (rows : List (List Value)) : Prop :=
  rows.length = n ∧ (∀ r ∈ rows, Fits ks r) ∧ (0 < n → ∃ b off, A = some ⟨b, off, none⟩ ∧ b < w.heap.size ∧ ∀ k (h : k < rows.length) j, j < ks.length → w.cell? ⟨b, off + k * ks.length + j, none⟩ = rows[k][j]?)
theorem open_rows {t e : TypeId} {ks : List (Value → Prop)} {A : Option Addr} {len cap : Nat} {d : DataW H} {p : List MemPlace} (ht : P.underlying t = some (.slice e)) (hk : Flat P e ks) (hc : P.cellsOf e = ks.length) (hpos : 0 < ks.length)
    (h : DataW.Trod enc P w 0 spare held t (.slice A len cap) d p) : ∃ rows, RowsOf w A len ks rows ∧ len ≤ maxLen := by
  obtain ⟨fuel, hf⟩ := h
  rcases open_slice ht hf with ⟨hcs, _⟩ | ⟨a, len', cap', m, n, D, Pl, hcs, _, hl, hm, hmm, _, hx⟩
  · simp [Value.cells] at hcs
    obtain ⟨rfl, rfl, rfl⟩ := hcs
    exact ⟨[], ⟨rfl, (fun r hr => absurd hr (by simp)), (fun h => absurd h (by omega))⟩, Nat.zero_le _⟩
  · simp [Value.cells] at hcs
    obtain ⟨rfl, rfl, rfl⟩ := hcs
    have hlm : len ≤ m := by rw [hmm]; split <;> omega
    have hx' : ∀ i, i < len → ∃ cs' : List Value, cs'.length = ks.length ∧ (∀ j, j < ks.length → w.cell? ((a.add (i * ks.length)).add j) = cs'[j]?) ∧ Fits ks cs' := fun i hi => by
      obtain ⟨cs', h1, h2⟩ := hx i (by omega)
      rw [hc] at h1
      obtain ⟨_, h3, h4⟩ := World.cells?_some h1
      exact ⟨cs', h3, h4, hk _ _ _ _ _ _ _ _ _ h2⟩
    obtain ⟨R, hR⟩ := choose_lt (α := List Value) hx'
    refine ⟨(List.range len).map R, ⟨by simp, fun r hr => ?_, fun hn => ?_⟩, by omega⟩
    · obtain ⟨i, hi, rfl⟩ := List.mem_map.1 hr
      exact (hR i (List.mem_range.1 hi)).2.2
    · obtain ⟨b, off, spot⟩ := a
      obtain ⟨l0, c0, _⟩ := hR 0 hn
      have hc0 := c0 0 hpos
      rw [List.getElem?_eq_getElem (by omega)] at hc0
      have hspot : spot = none := by simpa [Addr.add] using World.cell?_spot hc0
      subst hspot
      have hblk : b < w.heap.size := by
        have := block_lt_of_cell hc0
        simpa [Addr.add] using this
      refine ⟨b, off, rfl, hblk, fun k h j hj => ?_⟩
      have hk' : k < len := by simpa using h
      have := (hR k hk').2.1 j hj
      simp only [List.getElem_map, List.getElem_range]
      rw [← this]
      congr 1
      simp only [Addr.add]
      split <;> split <;> simp_all
end
end Go.Proofs.YtopfaapcekiojaaGreat
