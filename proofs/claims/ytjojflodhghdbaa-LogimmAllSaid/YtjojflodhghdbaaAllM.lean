/- The plain law of All: the fields that have a value, rising; how many there are. -/
import Derived.Test.YtjojflodhghdbaaLogP
namespace Go.Proofs.Ytjojflodhghdbaa
open Go.RowKit
set_option linter.unusedVariables false

/-- a field and its value -/
def AllX : Type := { p : Int × Int // (0 ≤ p.1 ∧ p.1 < 8192) ∧ U64 p.2 }
def allEnc (p : AllX) : Array Value := #[.int .i64 p.1.1, .int .u64 p.1.2]
theorem fldI_u64 (f w : Int) : U64 (fldI f w) := by
  by_cases h : fldE f w = 0
  · exact (field_back f w h).1
  · have : fldI f w = 0 := by
      unfold fldI
      by_cases h1 : widB w = true
      · rw [if_pos h1]
        by_cases h2 : 0 ≤ f ∧ f < 8192
        · rw [if_pos h2]
          refine if_neg (fun h3 => h ?_)
          unfold fldE
          rw [if_pos h1, if_pos h2, h3]
        · rw [if_neg h2]
      · rw [if_neg h1]
    rw [this]; unfold U64; omega
def allAt (w : Int) (f : Nat) (h : f < 8192) : AllX := ⟨((f : Int), fldI f w), ⟨by dsimp only; omega, by dsimp only; omega⟩, fldI_u64 f w⟩
/-- those of the first k fields -/
def allL (w : Int) : Nat → List AllX
  | 0 => []
  | k + 1 => allL w k ++ (if h : fldE (k : Int) w = 0 ∧ k < 8192 then [allAt w k h.2] else [])
theorem allL_hit {w : Int} {k : Nat} (h : fldE (k : Int) w = 0) (hk : k < 8192) : allL w (k + 1) = allL w k ++ [allAt w k hk] := by rw [allL, dif_pos ⟨h, hk⟩]
theorem allL_miss {w : Int} {k : Nat} (h : ¬ fldE (k : Int) w = 0) : allL w (k + 1) = allL w k := by rw [allL, dif_neg (fun h' => h h'.1), List.append_nil]
theorem allL_len (w : Int) : ∀ k, (allL w k).length ≤ k
  | 0 => by simp [allL]
  | k + 1 => by
    have := allL_len w k
    rw [allL, List.length_append]
    split <;> simp <;> omega
theorem allL_pre (w : Int) (k : Nat) : ∀ n, allL w k <+: allL w (k + n)
  | 0 => ⟨[], by simp⟩
  | n + 1 => (allL_pre w k n).trans ⟨_, rfl⟩
/-- how many there are -/
def allC (w : Int) : Nat → Nat
  | 0 => 0
  | k + 1 => allC w k + (if fldE (k : Int) w = 0 then 1 else 0)
theorem allC_len (w : Int) : ∀ k, k ≤ 8192 → (allL w k).length = allC w k
  | 0, _ => rfl
  | k + 1, h => by
    rw [allC]
    by_cases hk : fldE (k : Int) w = 0
    · rw [allL_hit hk (by omega), if_pos hk, List.length_append, allC_len w k (by omega)]; rfl
    · rw [allL_miss hk, if_neg hk, allC_len w k (by omega), Nat.add_zero]
/-- the count by halves, for the kernel -/
def allB (w : Int) (a : Nat) : Nat → Nat
  | 0 => if fldE (a : Int) w = 0 then 1 else 0
  | n + 1 => allB w a n + allB w (a + 2 ^ n) n
theorem allB_eq (w : Int) : ∀ (n a : Nat), allC w (a + 2 ^ n) = allC w a + allB w a n
  | 0, a => by simp [allC, allB]
  | n + 1, a => by
    rw [allB, Nat.pow_succ, Nat.mul_two, ← Nat.add_assoc, allB_eq w n (a + 2 ^ n), allB_eq w n a, Nat.add_assoc]
set_option maxRecDepth 100000 in
theorem all32 : allB 32 0 13 = 1302 := by decide +kernel
set_option maxRecDepth 100000 in
theorem all64 : allB 64 0 13 = 5334 := by decide +kernel
theorem all_count (w : Int) : (allL w 8192).length = allB w 0 13 := by
  rw [allC_len w 8192 (Nat.le_refl _)]
  have := allB_eq w 13 0
  rw [show (0 : Nat) + 2 ^ 13 = 8192 by decide] at this
  rw [this]
  exact Nat.zero_add _
end Go.Proofs.Ytjojflodhghdbaa
