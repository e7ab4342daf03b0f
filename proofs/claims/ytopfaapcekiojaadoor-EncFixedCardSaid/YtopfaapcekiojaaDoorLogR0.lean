/- Logical immediates, the document's answer: a pattern's value. -/
import Derived.Test.YtopfaapcekiojaaDoorLogW0
import Derived.Outline
namespace Go.Proofs.YtopfaapcekiojaaDoor
open Go.RowKit Go.Sort
attribute [local go_sem] cell_gr frozen_gr
set_option linter.unusedVariables false

theorem bit_fact (f : Nat → Bool) (k : Nat) (hk : k < 64) : bits BinOp.or IntKind.u64 ((natOf f k : Nat) : Int) (IntKind.u64.wrap (2 ^ k)) = ((natOf f k + 2 ^ k : Nat) : Int) := by
  have h1 : natOf f k < 18446744073709551616 := lt64 (natOf_lt f k) (by omega)
  have h2 : 2 ^ k < 18446744073709551616 := lt64 (k := k + 1) (by rw [Nat.pow_succ]; have := Nat.two_pow_pos k; omega) (by omega)
  have e : IntKind.u64.wrap (2 ^ k) = ((2 ^ k : Nat) : Int) := by
    rw [ipow, IntKind.wrap_u64]
    generalize 2 ^ k = q at *
    omega
  rw [e, u64_or_nat _ _ h1 h2, natOf_or]
theorem rem_fact (n s t : Nat) (h : t < s) (hs : s ≤ 64) : (wrap64 ((n : Int) % (s : Int) + (t : Int))).tmod (s : Int) = (((n % s + t) % s : Nat) : Int) := by
  have h1 : n % s < s := Nat.mod_lt _ (by omega)
  have e1 : (n : Int) % (s : Int) + (t : Int) = ((n % s + t : Nat) : Int) := by omega
  have e2 : wrap64 ((n % s + t : Nat) : Int) = ((n % s + t : Nat) : Int) := by
    generalize n % s = a at *
    unfold wrap64
    omega
  rw [e1, e2, Int.tmod_eq_emod_of_nonneg (by omega)]
  exact (Int.natCast_emod _ _).symm
end Go.Proofs.YtopfaapcekiojaaDoor
