/- Logical immediates, the document's answer: Pattern, Encode, Field. -/
import Derived.Test.YtopfaapcekiojaaDoorLogJ
namespace Go.Proofs.YtopfaapcekiojaaDoor
open Go.RowKit Go.Sort
attribute [local go_sem] cell_gr frozen_gr
set_option linter.unusedVariables false

theorem pat_cnt {v w s o t : Nat} (h : IsPat v w s o t) : cnt (fun i => v.testBit i) s = o := by
  obtain ⟨⟨p1, p2, p3, p4, p5⟩, rfl⟩ := h
  have e : cnt (fun i => (valN s o t w).testBit i) s = cnt (fun i => decide ((i + t) % s < o)) s := cnt_congr s (fun i hi => by
    have : i < w := by omega
    simp [valN, natOf_bit, this, oneAt_eq])
  rw [e, cnt_turn s o (by omega) (by omega)]
theorem no_size {v w z : Nat} (hc : cnt (fun i => v.testBit i) z < 1 ∨ z ≤ cnt (fun i => v.testBit i) z) (o t : Nat) : ¬ IsPat v w z o t := fun h => by
  have := pat_cnt h
  obtain ⟨⟨p1, p2, p3, p4, p5⟩, _⟩ := h
  omega
theorem next_size {v w z : Nat} (hz : Sz z) (h : ∀ s o t, IsPat v w s o t → z ≤ s) (hn : ∀ o t, ¬ IsPat v w z o t) : ∀ s o t, IsPat v w s o t → z * 2 ≤ s := fun s o t hp => by
  have h1 := h s o t hp
  have h2 : s ≠ z := fun e => by subst e; exact hn o t hp
  have h3 := hp.1.1
  unfold Sz at h3 hz
  omega
theorem step_fact (v n : Nat) (hn : n < 64) : wrap64 (((cnt (fun i => v.testBit i) n : Nat) : Int) + wrap64 (((v : Int) / 2 ^ n).tmod 2)) = ((cnt (fun i => v.testBit i) (n + 1) : Nat) : Int) := by
  have e : (v : Int) / 2 ^ n = ((v / 2 ^ n : Nat) : Int) := by rw [ipow, Int.natCast_ediv]
  have h1 := cnt_le (fun i => v.testBit i) n
  rw [e, Int.tmod_eq_emod_of_nonneg (Int.natCast_nonneg _), cnt]
  have h2 : (if v.testBit n then 1 else 0) = v / 2 ^ n % 2 := by
    rw [Nat.testBit_eq_decide_div_mod_eq]
    have := Nat.mod_two_eq_zero_or_one (v / 2 ^ n)
    rcases this with h | h <;> simp [h]
  rw [h2]
  generalize v / 2 ^ n = q at *
  generalize cnt (fun i => v.testBit i) n = c at *
  unfold wrap64
  omega
end Go.Proofs.YtopfaapcekiojaaDoor
