/- The contracts of the document's answer, layer 1: pow, Lies, Get, Put, Bit, Low. -/
import Derived.Test.YtopfaapcekiojaaDoorBitsW0
namespace Go.Proofs.YtopfaapcekiojaaDoor
open Go.RowKit Go.Sort
attribute [local go_sem] cell_gr frozen_gr
set_option linter.unusedVariables false

/-- a bit -/
def bitI (v n : Int) : Int := ((v.toNat / 2 ^ n.toNat % 2 : Nat) : Int)
/-- the lowest bits -/
def lowI (v n : Int) : Int := if 64 ≤ n then v else ((v.toNat % 2 ^ n.toNat : Nat) : Int)
theorem rget_fact (x lo wd : Int) (hx : U32 x) (h : liesB lo wd = true) : x / 2 ^ lo.toNat % 2 ^ wd.toNat = getI x lo wd ∧ 0 ≤ getI x lo wd ∧ getI x lo wd < 4294967296 := by
  obtain ⟨g1, g2, g3, g4⟩ := (liesB_iff lo wd).1 h
  obtain ⟨x1, x2⟩ := hx
  have hl := getN_lt x.toNat lo.toNat wd.toNat
  have := npow_le (n := wd.toNat) (m := 32) (by omega)
  rw [getI_of h]
  refine ⟨?_, by omega, by omega⟩
  unfold getN
  rw [ipow, ipow, Int.natCast_emod, Int.natCast_ediv, Int.toNat_of_nonneg x1]
theorem rput_fact (x lo wd v : Int) (hx : U32 x) (hv : U32 v) (h : liesB lo wd = true) (h' : putOk wd v = true) :
    0 ≤ getI x lo wd * 2 ^ lo.toNat ∧ getI x lo wd * 2 ^ lo.toNat ≤ x ∧ 0 ≤ v * 2 ^ lo.toNat ∧ v * 2 ^ lo.toNat < 4294967296 ∧ x - getI x lo wd * 2 ^ lo.toNat + v * 2 ^ lo.toNat = putI x lo wd v ∧ U32 (putI x lo wd v) := by
  obtain ⟨g1, g2, g3, g4⟩ := (liesB_iff lo wd).1 h
  obtain ⟨x1, x2⟩ := hx
  obtain ⟨v1, v2⟩ := hv
  have hv : v.toNat < 2 ^ wd.toNat := by simpa [putOk] using h'
  have hp := putN_lt x.toNat lo.toNat wd.toNat v.toNat 32 (by omega) hv (by omega)
  have hvl : v.toNat * 2 ^ lo.toNat < 2 ^ 32 := by
    have a : (v.toNat + 1) * 2 ^ lo.toNat ≤ 2 ^ wd.toNat * 2 ^ lo.toNat := Nat.mul_le_mul_right _ hv
    rw [← Nat.pow_add] at a
    have b := npow_le (n := wd.toNat + lo.toNat) (m := 32) (by omega)
    have c := Nat.two_pow_pos lo.toNat
    rw [Nat.add_mul] at a
    omega
  have ha : getN x.toNat lo.toNat wd.toNat * 2 ^ lo.toNat ≤ x.toNat := by
    have := split3 x.toNat lo.toNat wd.toNat
    rw [Nat.mul_comm (getN x.toNat lo.toNat wd.toNat)]
    omega
  have e1 : getI x lo wd * 2 ^ lo.toNat = ((getN x.toNat lo.toNat wd.toNat * 2 ^ lo.toNat : Nat) : Int) := by rw [getI_of h, ipow, Int.natCast_mul]
  have e2 : v * 2 ^ lo.toNat = ((v.toNat * 2 ^ lo.toNat : Nat) : Int) := by rw [ipow, Int.natCast_mul, Int.toNat_of_nonneg v1]
  rw [e1, e2, putI_of h h']
  have e3 : putN x.toNat lo.toNat wd.toNat v.toNat = x.toNat - getN x.toNat lo.toNat wd.toNat * 2 ^ lo.toNat + v.toNat * 2 ^ lo.toNat := rfl
  refine ⟨by omega, by omega, by omega, by omega, by omega, by omega, by omega⟩
theorem putOk_pow (wd v : Int) (hv : U32 v) : putOk wd v = decide (v < 2 ^ wd.toNat) := by
  obtain ⟨v1, v2⟩ := hv
  unfold putOk
  rw [ipow]
  exact decide_eq_decide.2 (by omega)

end Go.Proofs.YtopfaapcekiojaaDoor
