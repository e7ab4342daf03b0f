/- Names: rows of symbols, and how a name is found in them. -/
import Derived.Test.YtddfafapahnaaaaFixR
import Derived.RegionTactic
import Derived.BigRegion
namespace Go.Proofs.Ytddfafapahnaaaa
open Go.RowKit Go.Sort Go.Shelf
attribute [local go_sem] cell_gr frozen_gr
set_option linter.unusedVariables false
set_option linter.unusedSimpArgs false

/-- a symbol: its name, its section, its value, whether others see it -/
abbrev Sy := ByteArray × Int × Int × Bool
def syV (s : Sy) : Value := .agg #[.string s.1, .int .i64 s.2.1, .int .i64 s.2.2.1, .bool s.2.2.2]
/-- a slice of symbols -/
def SRow (w : World) (A : Option Addr) (n : Nat) (l : List Sy) : Prop :=
  l.length = n ∧ n ≤ maxLen ∧ (∀ f ∈ l, I64 f.2.1 ∧ I64 f.2.2.1) ∧ (0 < n → ∃ b off, A = some ⟨b, off, none⟩ ∧ b < w.heap.size ∧ ∀ k (h : k < l.length), w.cell? ⟨b, off + k * 4, none⟩ = some (.string l[k].1) ∧ w.cell? ⟨b, off + k * 4 + 1, none⟩ = some (.int .i64 l[k].2.1) ∧ w.cell? ⟨b, off + k * 4 + 2, none⟩ = some (.int .i64 l[k].2.2.1) ∧ w.cell? ⟨b, off + k * 4 + 3, none⟩ = some (.bool l[k].2.2.2))
theorem SRow.keep {w w' : World} {A : Option Addr} {n : Nat} {l : List Sy} (h : SRow w A n l) (hb : Below w.heap.size w w') : SRow w' A n l := by
  refine ⟨h.1, h.2.1, h.2.2.1, fun hn => ?_⟩
  obtain ⟨b, off, e, hlt, hc⟩ := h.2.2.2 hn
  refine ⟨b, off, e, Nat.lt_of_lt_of_le hlt hb.size, fun k hk => ?_⟩
  rw [(bcell hb).1 _ _ hlt, (bcell hb).1 _ _ hlt, (bcell hb).1 _ _ hlt, (bcell hb).1 _ _ hlt]
  exact hc k hk
/-- the first one of a name, and its number -/
def fnd (nm : ByteArray) : List Sy → Nat → Option (Sy × Nat)
  | [], _ => none
  | s :: r, i => if s.1 = nm then some (s, i) else fnd nm r (i + 1)
theorem fnd_hit {nm : ByteArray} : ∀ (l : List Sy) (i k : Nat) (h : k < l.length), (∀ j (hj : j < l.length), j < k → l[j].1 ≠ nm) → l[k].1 = nm → fnd nm l i = some (l[k], i + k)
  | s :: r, i, 0, h, h1, h2 => by
    have h2 : s.1 = nm := h2
    rw [fnd, if_pos h2]
    rfl
  | s :: r, i, k + 1, h, h1, h2 => by
    have h0 : s.1 ≠ nm := h1 0 (by simp) (by omega)
    have hk : k < r.length := by simpa using h
    rw [fnd, if_neg h0, fnd_hit r (i + 1) k hk (fun j hj hjk => by have := h1 (j + 1) (by simpa using hj) (by omega); simpa using this) (by simpa using h2)]
    simp only [List.getElem_cons_succ, Option.some.injEq, Prod.mk.injEq, true_and]
    omega
theorem fnd_miss {nm : ByteArray} : ∀ (l : List Sy) (i : Nat), (∀ j (hj : j < l.length), l[j].1 ≠ nm) → fnd nm l i = none
  | [], _, _ => rfl
  | s :: r, i, h => by
    have h0 : s.1 ≠ nm := h 0 (by simp)
    rw [fnd, if_neg h0]
    exact fnd_miss r (i + 1) (fun j hj => by have := h (j + 1) (by simpa using hj); simpa using this)
def dotS : ByteArray := ⟨#[46]⟩
def noS : ByteArray := ⟨#[]⟩
/-- a name that is there: its symbol, and its number -/
abbrev Pt := Sy × Int
/-- what a name is (not empty) -/
def look (nm : ByteArray) (sec off : Int) (l : List Sy) : Option Pt :=
  if nm = dotS then some ((noS, sec, off, false), -1) else (fnd nm l 0).map fun x => (x.1, (x.2 : Int))
def lookV : Option Pt → Value
  | some p => .tuple #[syV p.1, .int .i64 p.2, .bool true]
  | none => .tuple #[syV (noS, 0, 0, false), .int .i64 0, .bool false]
def PlaceAt (B : Nat) (sec off : Int) (A : Option Addr) (n ca : Nat) (w : World) : Prop := w.cell? ⟨B, 0, none⟩ = some (.int .i64 sec) ∧ w.cell? ⟨B, 1, none⟩ = some (.int .i64 off) ∧ w.cell? ⟨B, 2, none⟩ = some (.slice A n ca)
theorem dot_list : dotS.toList = [46] := ByteArray.toList_mk [46]
theorem no_list : noS.toList = [] := ByteArray.toList_mk []
theorem belowDrew {B : Nat} {a w : World} (h : Below B a w) : Below B a w.drew := ⟨h.os, h.tape, h.output, h.size, h.block⟩
theorem toList_inj {a b : ByteArray} (h : a.toList = b.toList) : a = b := by
  have h2 : a.data.toList = b.data.toList := by rw [← ByteArray.toList_eq, ← ByteArray.toList_eq]; exact h
  cases a; cases b
  simp at h2
  rw [h2]
theorem blk4 {W : World} {B : Nat} {a b c d : Value} {t : TypeId} (h : W.heap[B]? = some (.cells #[a, b, c, d] t (0, 0))) :
    (W.cell? ⟨B, 0, none⟩ = some a ∧ W.cell? ⟨B, 1, none⟩ = some b ∧ W.cell? ⟨B, 2, none⟩ = some c ∧ W.cell? ⟨B, 3, none⟩ = some d) ∧ W.frozen? ⟨B, 0, none⟩ = false ∧ W.frozen? ⟨B, 1, none⟩ = false ∧ W.frozen? ⟨B, 2, none⟩ = false ∧ W.frozen? ⟨B, 3, none⟩ = false := by
  refine ⟨⟨?_, ?_, ?_, ?_⟩, ?_, ?_, ?_, ?_⟩ <;> simp [World.cell?, World.frozen?, h]
set_option maxRecDepth 100000 in
set_option maxHeartbeats 4000000 in
theorem pfind_any (B : Nat) (sec off : Int) (A : Option Addr) (n ca : Nat) (l : List Sy) (nm : ByteArray) (w : World) (hP : PlaceAt B sec off A n ca w) (hl : SRow w A n l) :
    Calls Try.prog 33 #[.pointer (some ⟨B, 0, none⟩), .string nm] w (Ret (lookV (look nm sec off l)) w) := by
  obtain ⟨p0, p1, p2⟩ := hP
  have pB : B < w.heap.size := block_lt_of_cell p0
  by_cases hd : nm = dotS
  · have e : look nm sec off l = some ((noS, sec, off, false), -1) := if_pos hd
    have b : (nm.toList == [46]) = true := by rw [hd, dot_list]; rfl
    rw [e]
    clear hd
    go_enter Try.func33, Try.ntmps33
    go_wp2
    go_region
    go_wp2
    refine bodyPost_ret (v := lookV (some ((noS, sec, off, false), -1))) (by simp [results, Try.f33, go_sem, lookV, syV, noS]) rfl ?_
    exact ⟨rfl, (bnew _ _).drew⟩
  · have e : look nm sec off l = (fnd nm l 0).map fun x => (x.1, (x.2 : Int)) := if_neg hd
    have b : (nm.toList == [46]) = false := by
      rw [beq_eq_false_iff_ne]
      exact fun h => hd (toList_inj (by rw [h, dot_list]))
    rw [e]
    clear hd
    go_enter Try.func33, Try.ntmps33
    go_wp2
    obtain ⟨hl1, hl2, hl3, hl4⟩ := hl
    have hm : n ≤ 9223372036854775807 := hl2
    go_loopw [25] (fun i wr => ∃ k : Nat, k ≤ n ∧ i = .int .i64 k ∧ Below w.heap.size w wr ∧ w.heap.size < wr.heap.size ∧ (∀ j (hj : j < l.length), j < k → l[j].1 ≠ nm) ∧ wr.heap[w.heap.size]? = some (.cells #[.string ⟨#[]⟩, .int .i64 0, .int .i64 0, .bool false] 44 (0, 0))) (fun i _ => (n - intOf i).toNat)
    case atStart => exact ⟨0, by omega, rfl, bnew _ _, by simp, fun j hj h => by omega, World.alloc_heap_new _ _⟩
    case round =>
      obtain ⟨k, hk, rfl, hB, hz, hno, hf⟩ := hrel
      by_cases hlt : k < n
      · obtain ⟨bs, os, rfl, hbs, hc⟩ := hl4 (by omega)
        obtain ⟨y0, y1, y2, y3⟩ := hc k (by omega)
        replace y0 := (hB.cell (p := ⟨bs, os + k * 4, none⟩) hbs).trans y0
        replace y1 := (hB.cell (p := ⟨bs, os + k * 4 + 1, none⟩) hbs).trans y1
        replace y2 := (hB.cell (p := ⟨bs, os + k * 4 + 2, none⟩) hbs).trans y2
        replace y3 := (hB.cell (p := ⟨bs, os + k * 4 + 3, none⟩) hbs).trans y3
        clear hc hl4
        obtain ⟨⟨r0, r1, r2, r3⟩, f0, f1, f2, f3⟩ := blk4 hf
        by_cases he : l[k].1 = nm
        · have b2 : (l[k].1.toList == nm.toList) = true := by rw [he]; exact beq_self_eq_true _
          have e2 := fnd_hit l 0 k (by omega) hno he
          clear hno
          generalize l[k] = s at *
          go_wp2
          obtain ⟨Wf, hWf⟩ : ∃ Wf, Wf = (((((wr.setCell ⟨w.heap.size, 0, none⟩ (.string nm)).setCell ⟨w.heap.size, 1, none⟩ (.int .i64 s.2.1)).setCell ⟨w.heap.size, 2, none⟩ (.int .i64 s.2.2.1)).setCell ⟨w.heap.size, 3, none⟩ (.bool s.2.2.2)).alloc (.cells #[.string nm, .int .i64 s.2.1, .int .i64 s.2.2.1, .bool s.2.2.2] 44)) := ⟨_, rfl⟩
          rw [← hWf]
          have c0 : Wf.cell? ⟨w.heap.size, 0, none⟩ = some (.string nm) := by rw [hWf]; exact cell_up _ (by simp [go_sem, r0, r1, r2, r3])
          have c1 : Wf.cell? ⟨w.heap.size, 1, none⟩ = some (.int .i64 s.2.1) := by rw [hWf]; exact cell_up _ (by simp [go_sem, r0, r1, r2, r3])
          have c2 : Wf.cell? ⟨w.heap.size, 2, none⟩ = some (.int .i64 s.2.2.1) := by rw [hWf]; exact cell_up _ (by simp [go_sem, r0, r1, r2, r3])
          have c3 : Wf.cell? ⟨w.heap.size, 3, none⟩ = some (.bool s.2.2.2) := by rw [hWf]; exact cell_up _ (by simp [go_sem, r0, r1, r2, r3])
          have hBf : Below w.heap.size w Wf := by rw [hWf]; go_grown
          clear hWf
          rw [e2]
          subst he
          refine bodyPost_ret (v := .tuple #[syV s, .int .i64 k, .bool true]) (by simp [results, Try.f33, go_sem, c0, c1, c2, c3, syV]) rfl ?_
          exact ⟨by simp [lookV], hBf⟩
        · have b2 : (l[k].1.toList == nm.toList) = false := beq_eq_false_iff_ne.2 (fun h => he (toList_inj h))
          replace hno := Lib.hid hno
          replace he := Lib.hid he
          go_wp2
          go_roundw
          case rel =>
            refine ⟨k + 1, by omega, by simp, hB.alloc hB.size _, by simp; omega, fun j hj h => ?_, (Below.heap_alloc wr _ _ hz).trans hf⟩
            by_cases hjk : j = k
            · subst hjk; exact he.out
            · exact hno.out j hj (by omega)
          case measure => simp [intOf]; omega
      · obtain rfl : k = n := by omega
        have e2 : fnd nm l 0 = none := fnd_miss l 0 (fun j hj => hno j hj (by omega))
        clear hno hl4
        obtain ⟨⟨r0, r1, r2, r3⟩, f0, f1, f2, f3⟩ := blk4 hf
        go_wp2
        obtain ⟨Wf, hWf⟩ : ∃ Wf, Wf = ((((wr.setCell ⟨w.heap.size, 0, none⟩ (.string ⟨#[]⟩)).setCell ⟨w.heap.size, 1, none⟩ (.int .i64 0)).setCell ⟨w.heap.size, 2, none⟩ (.int .i64 0)).setCell ⟨w.heap.size, 3, none⟩ (.bool false)) := ⟨_, rfl⟩
        rw [← hWf]
        have c0 : Wf.cell? ⟨w.heap.size, 0, none⟩ = some (.string ⟨#[]⟩) := by rw [hWf]; simp [go_sem, r0, r1, r2, r3]
        have c1 : Wf.cell? ⟨w.heap.size, 1, none⟩ = some (.int .i64 0) := by rw [hWf]; simp [go_sem, r0, r1, r2, r3]
        have c2 : Wf.cell? ⟨w.heap.size, 2, none⟩ = some (.int .i64 0) := by rw [hWf]; simp [go_sem, r0, r1, r2, r3]
        have c3 : Wf.cell? ⟨w.heap.size, 3, none⟩ = some (.bool false) := by rw [hWf]; simp [go_sem, r0, r1, r2, r3]
        have hBf : Below w.heap.size w Wf := by rw [hWf]; go_grown
        clear hWf
        rw [e2]
        refine bodyPost_ret (v := lookV none) (by simp [results, Try.f33, go_sem, c0, c1, c2, c3, lookV, syV, noS]) rfl ?_
        exact ⟨rfl, hBf⟩
end Go.Proofs.Ytddfafapahnaaaa
