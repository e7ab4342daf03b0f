/- Slices that came in, read as lists: of fields, of words. -/
import Derived.Test.YtddfafapahnaaaaRefW2
import Derived.Test.YtddfafapahnaaaaOpen
namespace Go.Proofs.Ytddfafapahnaaaa
open Go.RowKit Go.Sort
set_option linter.unusedVariables false

/-- a slice of fields -/
def FRow (w : World) (A : Option Addr) (n : Nat) (l : List (Int × Int)) : Prop :=
  l.length = n ∧ (∀ f ∈ l, I64 f.1 ∧ I64 f.2) ∧ (0 < n → ∃ b off, A = some ⟨b, off, none⟩ ∧ b < w.heap.size ∧ ∀ k (h : k < l.length), w.cell? ⟨b, off + k * 2, none⟩ = some (.int .i64 l[k].1) ∧ w.cell? ⟨b, off + k * 2 + 1, none⟩ = some (.int .i64 l[k].2))
/-- a slice of words of 32 bits -/
def WRow (w : World) (A : Option Addr) (n : Nat) (l : List Int) : Prop :=
  l.length = n ∧ (∀ v ∈ l, U32 v) ∧ (0 < n → ∃ b off, A = some ⟨b, off, none⟩ ∧ b < w.heap.size ∧ ∀ k (h : k < l.length), w.cell? ⟨b, off + k, none⟩ = some (.int .u32 l[k]))
theorem FRow.keep {w w' : World} {A : Option Addr} {n : Nat} {l : List (Int × Int)} (h : FRow w A n l) (hb : Below w.heap.size w w') : FRow w' A n l := by
  refine ⟨h.1, h.2.1, fun hn => ?_⟩
  obtain ⟨b, off, e, hlt, hc⟩ := h.2.2 hn
  refine ⟨b, off, e, Nat.lt_of_lt_of_le hlt hb.size, fun k hk => ?_⟩
  rw [(bcell hb).1 _ _ hlt, (bcell hb).1 _ _ hlt]
  exact hc k hk
theorem WRow.keep {w w' : World} {A : Option Addr} {n : Nat} {l : List Int} (h : WRow w A n l) (hb : Below w.heap.size w w') : WRow w' A n l := by
  refine ⟨h.1, h.2.1, fun hn => ?_⟩
  obtain ⟨b, off, e, hlt, hc⟩ := h.2.2 hn
  refine ⟨b, off, e, Nat.lt_of_lt_of_le hlt hb.size, fun k hk => ?_⟩
  rw [(bcell hb).1 _ _ hlt]
  exact hc k hk

/-- the number in a value -/
def numOf : Value → Int | .int _ n => n | _ => 0
theorem frow_of {w : World} {A : Option Addr} {n : Nat} {rows : List (List Value)} (h : RowsOf w A n [isInt .i64, isInt .i64] rows) : ∃ l, FRow w A n l := by
  obtain ⟨h1, h2, h3⟩ := h
  have form : ∀ r ∈ rows, ∃ a b, r = [.int .i64 a, .int .i64 b] ∧ I64 a ∧ I64 b := fun r hr => by
    obtain ⟨v0, r1, rfl, ⟨a, rfl, wa⟩, q1⟩ := fits_cons (h2 r hr)
    obtain ⟨v1, r2, rfl, ⟨b, rfl, wb⟩, q2⟩ := fits_cons q1
    obtain rfl := fits_nil q2
    exact ⟨a, b, rfl, i64_wf wa, i64_wf wb⟩
  refine ⟨rows.map fun r => (numOf (r.getD 0 undef), numOf (r.getD 1 undef)), by simpa using h1, fun f hf => ?_, fun hn => ?_⟩
  · obtain ⟨r, hr, rfl⟩ := List.mem_map.1 hf
    obtain ⟨a, b, rfl, ia, ib⟩ := form r hr
    exact ⟨ia, ib⟩
  · obtain ⟨b, off, rfl, hb, hc⟩ := h3 hn
    refine ⟨b, off, rfl, hb, fun k hk => ?_⟩
    have hk' : k < rows.length := by simpa using hk
    obtain ⟨x, y, e, ix, iy⟩ := form rows[k] (List.getElem_mem hk')
    have c0 := hc k hk' 0 (by simp)
    have c1 := hc k hk' 1 (by simp)
    simp only [List.length_cons, List.length_nil, Nat.zero_add, Nat.reduceAdd, Nat.add_zero] at c0 c1
    rw [e] at c0 c1
    rw [List.getElem_map, e]
    exact ⟨c0, c1⟩
theorem wrow_of {w : World} {A : Option Addr} {n : Nat} {rows : List (List Value)} (h : RowsOf w A n [isInt .u32] rows) : ∃ l, WRow w A n l := by
  obtain ⟨h1, h2, h3⟩ := h
  have form : ∀ r ∈ rows, ∃ a, r = [.int .u32 a] ∧ U32 a := fun r hr => by
    obtain ⟨v0, r1, rfl, ⟨a, rfl, wa⟩, q1⟩ := fits_cons (h2 r hr)
    obtain rfl := fits_nil q1
    exact ⟨a, rfl, u32_wf wa⟩
  refine ⟨rows.map fun r => numOf (r.getD 0 undef), by simpa using h1, fun f hf => ?_, fun hn => ?_⟩
  · obtain ⟨r, hr, rfl⟩ := List.mem_map.1 hf
    obtain ⟨a, rfl, ia⟩ := form r hr
    exact ia
  · obtain ⟨b, off, rfl, hb, hc⟩ := h3 hn
    refine ⟨b, off, rfl, hb, fun k hk => ?_⟩
    have hk' : k < rows.length := by simpa using hk
    obtain ⟨x, e, ix⟩ := form rows[k] (List.getElem_mem hk')
    have c0 := hc k hk' 0 (by simp)
    simp only [List.length_cons, List.length_nil, Nat.zero_add, Nat.mul_one, Nat.add_zero] at c0
    rw [e] at c0
    rw [List.getElem_map, e]
    exact c0
end Go.Proofs.Ytddfafapahnaaaa
