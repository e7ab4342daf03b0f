/- Logical immediates: Decode, and Value of a field. -/
import Derived.Test.YtopfaapcekiojaaGreatDoorLogD
import Derived.Test.YtopfaapcekiojaaGreatDoorLogR0
namespace Go.Proofs.YtopfaapcekiojaaGreatDoor
open Go.RowKit Go.Sort
attribute [local go_sem] cell_gr frozen_gr
set_option linter.unusedVariables false

def widB (w : Int) : Bool := decide (w = 32) || decide (w = 64)
theorem wid_not {w : Int} (h : ¬ (w = 32 ∨ w = 64)) : widB w = false := by
  rw [Bool.eq_false_iff]; intro h'; exact h (by simpa [widB] using h')
theorem width_any (w : Int) (W : World) : Calls Tryz.prog 109 #[.int .i64 w] W (Ret (.bool (widB w)) W) := by
  by_cases h1 : w = 32
  · subst h1
    go_enter Tryz.func109, Tryz.ntmps109
    go_wp2
    go_ret
    exact ⟨rfl, Below.refl _ _⟩
  · have e : widB w = decide (w = 64) := by unfold widB; rw [decide_eq_false h1]; rfl
    rw [e]
    have e2 : (w == 32) = false := beq_false_of_ne h1
    go_enter Tryz.func109, Tryz.ntmps109
    go_wp2
    go_ret
    exact ⟨by simp; rfl, Below.refl _ _⟩
/-- are parts of a pattern of the width? -/
def okD (n r m w : Int) : Bool := decide (0 ≤ n) && decide (n ≤ 1) && decide (0 ≤ m) && decide (m ≤ 63) && mayB (szI n m) (m - topI (szI n m) + 1) r w
/-- the value of parts, and its error -/
def decE (n r m w : Int) : Int := if widB w then if okD n r m w then 0 else 20 else 1
def decI (n r m w : Int) : Int := if decE n r m w = 0 then ((valN (szI n m).toNat (m - topI (szI n m) + 1).toNat r.toNat w.toNat : Nat) : Int) else 0
theorem szI_sz (n m w o r : Int) (hm : 0 ≤ m) (h : mayB (szI n m) o r w = true) : Sz (szI n m).toNat := by
  obtain ⟨h1, _⟩ := (mayB_iff _ _ _ _).1 h
  unfold szI at *
  unfold Sz
  (repeat' split) <;> simp_all
theorem pat_of {s o t w : Int} (hs : Sz s.toNat) (h : mayB s o t w = true) : Pat s.toNat o.toNat t.toNat w.toNat := by
  obtain ⟨h1, h2, h3, h4, h5, h6⟩ := (mayB_iff _ _ _ _).1 h
  exact ⟨hs, by omega, by omega, by omega, by omega⟩
theorem int_of {s : Int} (h : 0 ≤ s) : ((s.toNat : Nat) : Int) = s := Int.toNat_of_nonneg h
theorem i64_and63 (n : Int) : bits .and .i64 n 63 = n % 64 := by
  have h63 : (BitVec.ofInt 64 63).toNat = 2 ^ 6 - 1 := by decide
  have key : (BitVec.ofInt 64 n &&& BitVec.ofInt 64 63).toNat = (n % ((2 ^ 64 : Nat) : Int)).toNat % 2 ^ 6 := by
    rw [BitVec.toNat_and, BitVec.toNat_ofInt, h63, Nat.and_two_pow_sub_one_eq_mod]
  show IntKind.i64.wrap ((BitVec.ofInt 64 n &&& BitVec.ofInt 64 63).toNat : Nat) = n % 64
  rw [key, IntKind.wrap_i64]
  omega
/-- the value of a field, and its error -/
def fldE (f w : Int) : Int := if widB w then if 0 ≤ f ∧ f < 8192 then decE (f / 4096) (f / 64 % 64) (f % 64) w else 20 else 1
def fldI (f w : Int) : Int := if widB w then if 0 ≤ f ∧ f < 8192 then decI (f / 4096) (f / 64 % 64) (f % 64) w else 0 else 0
end Go.Proofs.YtopfaapcekiojaaGreatDoor
