/- The contract of Go's math/bits.OnesCount64. -/
import Derived.Test.YtopfaapcekiojaaGreatBase
import Derived.Test.YtopfaapcekiojaaGreatPop
namespace Go.Proofs.YtopfaapcekiojaaGreat
open Go.RowKit Go.Sort
set_option linter.unusedVariables false

/-- how many ones -/
def pcI (v : Int) : Int := ((Pop.pc 64 v.toNat : Nat) : Int)
theorem and_u64 (x m : Int) (hx : U64 x) (hm : U64 m) : bits BinOp.and IntKind.u64 x m = ((x.toNat &&& m.toNat : Nat) : Int) :=
  u64_and x m hx.1 hx.2 hm.1 hm.2
theorem and_lt64 (x m : Nat) (hm : m < 18446744073709551616) : x &&& m < 18446744073709551616 := Nat.lt_of_le_of_lt Nat.and_le_right hm
theorem w128 (x : Nat) : wrap64 (x : Int) % 128 = ((x % 128 : Nat) : Int) := by unfold wrap64; omega
theorem pop_ints (v : Int) (hv : U64 v) : ∃ x1 x2 x3 x4 x5 x6 : Int,
    (IntKind.u64.wrap (bits BinOp.and IntKind.u64 (v / 2) 6148914691236517205 + bits BinOp.and IntKind.u64 v 6148914691236517205) = x1 ∧ U64 x1) ∧
    (IntKind.u64.wrap (bits BinOp.and IntKind.u64 (x1 / 4) 3689348814741910323 + bits BinOp.and IntKind.u64 x1 3689348814741910323) = x2 ∧ U64 x2) ∧
    (bits BinOp.and IntKind.u64 (IntKind.u64.wrap (x2 / 16 + x2)) 1085102592571150095 = x3 ∧ U64 x3) ∧
    (IntKind.u64.wrap (x3 + x3 / 256) = x4 ∧ U64 x4) ∧ (IntKind.u64.wrap (x4 + x4 / 65536) = x5 ∧ U64 x5) ∧ (IntKind.u64.wrap (x5 + x5 / 4294967296) = x6 ∧ U64 x6) ∧
    bits BinOp.and IntKind.i64 (wrap64 x6) 127 = pcI v := by
  obtain ⟨n, rfl⟩ := Int.eq_ofNat_of_zero_le hv.1
  have hv2 : n < 18446744073709551616 := by have := hv.2; omega
  obtain ⟨x1, x2, x3, x4, x5, x6, h1, k1, h2, k2, h3, k3, h4, k4, h5, k5, h6, k6, h7⟩ := Pop.chain n hv2
  have w (a : Nat) (ha : a < 18446744073709551616) : IntKind.u64.wrap (a : Int) = (a : Int) := by rw [IntKind.wrap_u64]; omega
  have U (a : Nat) (ha : a < 18446744073709551616) : U64 (a : Int) := ⟨by omega, by omega⟩
  refine ⟨x1, x2, x3, x4, x5, x6, ⟨?_, U _ k1⟩, ⟨?_, U _ (by omega)⟩, ⟨?_, U _ k3⟩, ⟨?_, U _ k4⟩, ⟨?_, U _ k5⟩, ⟨?_, U _ k6⟩, ?_⟩
  · have a := and_u64 ((n : Int) / 2) 6148914691236517205 ⟨by omega, by omega⟩ ⟨by decide, by decide⟩
    have b := and_u64 (n : Int) 6148914691236517205 hv ⟨by decide, by decide⟩
    have e : ((n : Int) / 2).toNat = n / 2 := by omega
    simp only [e, Int.reduceToNat] at a
    simp only [Int.toNat_natCast, Int.reduceToNat] at b
    rw [a, b, ← Int.natCast_add, h1, w _ k1]
  · have a := and_u64 ((x1 : Int) / 4) 3689348814741910323 ⟨by omega, by omega⟩ ⟨by decide, by decide⟩
    have b := and_u64 (x1 : Int) 3689348814741910323 (U _ k1) ⟨by decide, by decide⟩
    have e : ((x1 : Int) / 4).toNat = x1 / 4 := by omega
    simp only [e, Int.reduceToNat] at a
    simp only [Int.toNat_natCast, Int.reduceToNat] at b
    rw [a, b, ← Int.natCast_add, h2, w _ (by omega)]
  · have e0 : IntKind.u64.wrap ((x2 : Int) / 16 + (x2 : Int)) = ((x2 / 16 + x2 : Nat) : Int) := by rw [IntKind.wrap_u64]; omega
    have a := and_u64 ((x2 / 16 + x2 : Nat) : Int) 1085102592571150095 (U _ (by omega)) ⟨by decide, by decide⟩
    simp only [Int.toNat_natCast, Int.reduceToNat, h3] at a
    rw [e0]; exact a
  · have e : (x3 : Int) + (x3 : Int) / 256 = ((x3 + x3 / 256 : Nat) : Int) := by omega
    rw [e, h4, w _ k4]
  · have e : (x4 : Int) + (x4 : Int) / 65536 = ((x4 + x4 / 65536 : Nat) : Int) := by omega
    rw [e, h5, w _ k5]
  · have e : (x5 : Int) + (x5 : Int) / 4294967296 = ((x5 + x5 / 4294967296 : Nat) : Int) := by omega
    rw [e, h6, w _ k6]
  · rw [i64_and127]
    unfold pcI
    rw [Int.toNat_natCast, ← h7]
    exact w128 x6
theorem pop_same (v : Int) (w : World) (hv : U64 v) : Calls Tryz.prog 174 #[.int .u64 v] w (Same (.int .i64 (pcI v)) w) := by
  obtain ⟨x1, x2, x3, x4, x5, x6, ⟨h1, k1, m1⟩, ⟨h2, k2, m2⟩, ⟨h3, k3, m3⟩, ⟨h4, k4, m4⟩, ⟨h5, k5, m5⟩, ⟨h6, k6, m6⟩, h7⟩ := pop_ints v hv
  obtain ⟨v1, v2⟩ := hv
  have E := Lib.hid h7
  clear h7
  go_enter Tryz.func174, Tryz.ntmps174
  go_wp2
  go_ret
  exact ⟨ret_int E.out, rfl⟩
end Go.Proofs.YtopfaapcekiojaaGreat
