/- A call returns one value alone. -/
import Derived.Test.YtopfaapcekiojaaGreatBase
import Derived.Test.YtopfaapcekiojaaGreatDecB0
import Derived.Test.YtopfaapcekiojaaGreatDecB3
namespace Go.Proofs.YtopfaapcekiojaaGreat.Sym
open Go Go.RowKit Go.Proofs.YtopfaapcekiojaaGreat

theorem steps_end {P : Program} {m m1 m2 : Machine} (h1 : Steps P m m1) (h2 : Steps P m m2) (e1 : ∀ m', step P m1 ≠ .next m') (e2 : ∀ m', step P m2 ≠ .next m') : m1 = m2 := by
  have go : ∀ {a b : Machine} {n k : Nat}, runN P n m = .next a → runN P (n + k) m = .next b → (∀ m', step P a ≠ .next m') → a = b := by
    intro a b n k ha hb ea
    rw [runN_add, ha] at hb
    cases k with
    | zero => simpa [runN] using hb
    | succ k =>
      simp only [runN] at hb
      cases hs : step P a with
      | next m' => exact absurd hs (ea m')
      | ended o w => rw [hs] at hb; cases hb
  obtain ⟨n1, h1⟩ := h1
  obtain ⟨n2, h2⟩ := h2
  by_cases h : n1 ≤ n2
  · obtain ⟨k, rfl⟩ : ∃ k, n2 = n1 + k := ⟨n2 - n1, by omega⟩
    exact go h1 h2 e1
  · obtain ⟨k, rfl⟩ : ∃ k, n1 = n2 + k := ⟨n1 - n2, by omega⟩
    exact (go h2 h1 e2).symm
/-- a function that is no init: its value is one -/
theorem ret_unique {P : Program} {f : FuncId} (hi : P.inits.idxOf? f = none) {args : Array Value} {W : World} {u v : Value} (h1 : Calls P f args W (Ret u W)) (h2 : Calls P f args W (Ret v W)) : u = v := by
  obtain ⟨e1, w1, fr1, ⟨rfl, _⟩, c1, f1, l1⟩ := h1 []
  obtain ⟨e2, w2, fr2, ⟨rfl, _⟩, c2, f2, l2⟩ := h2 []
  have s1 := step_leave_done l1 (by rw [f1]; exact hi)
  have s2 := step_leave_done l2 (by rw [f2]; exact hi)
  have e := steps_end c1 c2 (fun m' h => by rw [s1] at h; cases h) (fun m' h => by rw [s2] at h; cases h)
  rw [e, s2] at s1
  injection s1 with s _
  injection s with s
  exact s.symm
end Go.Proofs.YtopfaapcekiojaaGreat.Sym

/- What Encode gives of any instruction, and Decode of that; what Decode gives of any word, and Encode of that. -/
namespace Go.Proofs.YtopfaapcekiojaaGreat.Sym
open Go Go.RowKit Go.Proofs.YtopfaapcekiojaaGreat
theorem d2_all : ∀ k, k < 33 → d2K k = true
  | 0, _ => d2_run_0
  | 1, _ => d2_run_1
  | 2, _ => d2_run_2
  | 3, _ => d2_run_3
  | 4, _ => d2_run_4
  | 5, _ => d2_run_5
  | 6, _ => d2_run_6
  | 7, _ => d2_run_7
  | 8, _ => d2_run_8
  | 9, _ => d2_run_9
  | 10, _ => d2_run_10
  | 11, _ => d2_run_11
  | 12, _ => d2_run_12
  | 13, _ => d2_run_13
  | 14, _ => d2_run_14
  | 15, _ => d2_run_15
  | 16, _ => d2_run_16
  | 17, _ => d2_run_17
  | 18, _ => d2_run_18
  | 19, _ => d2_run_19
  | 20, _ => d2_run_20
  | 21, _ => d2_run_21
  | 22, _ => d2_run_22
  | 23, _ => d2_run_23
  | 24, _ => d2_run_24
  | 25, _ => d2_run_25
  | 26, _ => d2_run_26
  | 27, _ => d2_run_27
  | 28, _ => d2_run_28
  | 29, _ => d2_run_29
  | 30, _ => d2_run_30
  | 31, _ => d2_run_31
  | 32, _ => d2_run_32
  | k + 33, h => by omega
theorem enc_one (y : Ins) (hy : y.wf) : EncAny y := enc_any_of d2_all d2_run_lo d2_run_hi y hy
end Go.Proofs.YtopfaapcekiojaaGreat.Sym
