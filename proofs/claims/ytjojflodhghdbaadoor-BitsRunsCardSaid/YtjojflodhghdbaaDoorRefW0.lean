/- The contracts of the document's answer, layer 1: pow, Lies, Get, Put, Bit, Low. -/
import Derived.Test.YtjojflodhghdbaaDoorBitsW0
namespace Go.Proofs.YtjojflodhghdbaaDoor
open Go.RowKit Go.Sort
attribute [local go_sem] cell_gr frozen_gr
set_option linter.unusedVariables false

theorem pow_same (n : Int) (w : World) (hn : I64 n) (h : n ≤ 63) : Calls Tryd.prog 21 #[.int .i64 n] w (Same (.int .u64 (2 ^ n.toNat)) w) := by
  obtain ⟨h1, h2⟩ := hn
  go_enter Tryd.func21, Tryd.ntmps21
  go_wp2
  go_loop [3, 4] (fun v i => ∃ k : Nat, k ≤ n.toNat ∧ i = .int .i64 k ∧ v = .int .u64 (2 ^ k)) (fun _ i => n.toNat - (intOf i).toNat)
  case atStart => exact ⟨0, by omega, rfl, rfl⟩
  case round =>
    obtain ⟨k, hk, rfl, rfl⟩ := hrel
    by_cases hlt : (k : Int) < n
    · have hp := pow_lt64 (k + 1) (by omega)
      have hs : (2 : Int) ^ (k + 1) = 2 ^ k * 2 := by rw [Int.pow_succ]
      have e : IntKind.u64.wrap (2 ^ k * 2) = 2 ^ (k + 1) := by rw [IntKind.wrap_u64, ← hs]; omega
      have E := Lib.hid e
      clear e hs hp
      go_wp2
      go_round
      case rel => exact ⟨k + 1, by omega, by go_num, by rw [E.out]⟩
      case measure => simp [intOf]; omega
    · have hk' : n.toNat = k := by omega
      have HK := Lib.hid hk'
      clear hk'
      go_wp2
      go_ret
      exact ⟨by rw [HK.out]; rfl, rfl⟩
theorem pow_any (n : Int) (w : World) (hn : I64 n) (h : n ≤ 63) : Calls Tryd.prog 21 #[.int .i64 n] w (Ret (.int .u64 (2 ^ n.toNat)) w) := of_same (pow_same n w hn h)

/-- a bit -/
def bitI (v n : Int) : Int := ((v.toNat / 2 ^ n.toNat % 2 : Nat) : Int)
theorem bit_same (v n : Int) (w : World) (hv : U64 v) (hn : I64 n) (h : n ≤ 63) : Calls Tryd.prog 23 #[.int .u64 v, .int .i64 n] w (Same (.int .u64 (bitI v n)) w) := by
  obtain ⟨v1, v2⟩ := hv
  have c := fun W => pow_same n W hn h
  have hp := pow_lt64 n.toNat (by omega)
  obtain ⟨p1, p2⟩ := hp
  have hq : 0 ≤ v / 2 ^ n.toNat := Int.ediv_nonneg v1 (by omega)
  have hne : ((2 : Int) ^ n.toNat = 0) = False := by apply eq_false; omega
  have e : v / 2 ^ n.toNat % 2 = bitI v n := by
    unfold bitI
    rw [ipow, Int.natCast_emod, Int.natCast_ediv, Int.toNat_of_nonneg v1]; rfl
  have E := Lib.hid e
  clear e
  go_enter Tryd.func23, Tryd.ntmps23
  go_wp2_with (go_at_call 21; refine (c _).mono ?_; rintro e w1 ⟨rfl, rfl⟩)
  go_ret
  exact ⟨ret_int E.out, rfl⟩
theorem bit_any (v n : Int) (w : World) (hv : U64 v) (hn : I64 n) (h : n ≤ 63) : Calls Tryd.prog 23 #[.int .u64 v, .int .i64 n] w (Ret (.int .u64 (bitI v n)) w) := of_same (bit_same v n w hv hn h)

/-- the lowest bits -/
def lowI (v n : Int) : Int := if 64 ≤ n then v else ((v.toNat % 2 ^ n.toNat : Nat) : Int)
theorem low_same (v n : Int) (w : World) (hv : U64 v) (hn : I64 n) : Calls Tryd.prog 8 #[.int .u64 v, .int .i64 n] w (Same (.int .u64 (lowI v n)) w) := by
  obtain ⟨v1, v2⟩ := hv
  by_cases h : 64 ≤ n
  · have e : lowI v n = v := if_pos h
    rw [e]
    obtain ⟨n1, n2⟩ := hn
    go_enter Tryd.func8, Tryd.ntmps8
    go_wp2
    go_ret
    exact ⟨rfl, rfl⟩
  · have c := fun W => pow_same n W hn (by omega)
    obtain ⟨n1, n2⟩ := hn
    have hp := pow_lt64 n.toNat (by omega)
    obtain ⟨p1, p2⟩ := hp
    have hne : ((2 : Int) ^ n.toNat = 0) = False := by apply eq_false; omega
    have e : v % 2 ^ n.toNat = lowI v n := by
      unfold lowI
      rw [if_neg h, ipow, Int.natCast_emod, Int.toNat_of_nonneg v1]
    have E := Lib.hid e
    clear e
    go_enter Tryd.func8, Tryd.ntmps8
    go_wp2_with (go_at_call 21; refine (c _).mono ?_; rintro e w1 ⟨rfl, rfl⟩)
    go_ret
    exact ⟨ret_int E.out, rfl⟩
theorem low_any (v n : Int) (w : World) (hv : U64 v) (hn : I64 n) : Calls Tryd.prog 8 #[.int .u64 v, .int .i64 n] w (Ret (.int .u64 (lowI v n)) w) := of_same (low_same v n w hv hn)

theorem rget_fact (x lo wd : Int) (hx : U32 x) (h : liesB lo wd = true) : x / 2 ^ lo.toNat % 2 ^ wd.toNat = getI x lo wd ∧ 0 ≤ getI x lo wd ∧ getI x lo wd < 4294967296 := by
  obtain ⟨g1, g2, g3, g4⟩ := (liesB_iff lo wd).1 h
  obtain ⟨x1, x2⟩ := hx
  have hl := getN_lt x.toNat lo.toNat wd.toNat
  have := npow_le (n := wd.toNat) (m := 32) (by omega)
  rw [getI_of h]
  refine ⟨?_, by omega, by omega⟩
  unfold getN
  rw [ipow, ipow, Int.natCast_emod, Int.natCast_ediv, Int.toNat_of_nonneg x1]
theorem rput_fact (x lo wd v : Int) (hx : U32 x) (hv : U32 v) (h : liesB lo wd = true) (h' : putOk wd v = true) :
    0 ≤ getI x lo wd * 2 ^ lo.toNat ∧ getI x lo wd * 2 ^ lo.toNat ≤ x ∧ 0 ≤ v * 2 ^ lo.toNat ∧ v * 2 ^ lo.toNat < 4294967296 ∧ x - getI x lo wd * 2 ^ lo.toNat + v * 2 ^ lo.toNat = putI x lo wd v ∧ U32 (putI x lo wd v) := by
  obtain ⟨g1, g2, g3, g4⟩ := (liesB_iff lo wd).1 h
  obtain ⟨x1, x2⟩ := hx
  obtain ⟨v1, v2⟩ := hv
  have hv : v.toNat < 2 ^ wd.toNat := by simpa [putOk] using h'
  have hp := putN_lt x.toNat lo.toNat wd.toNat v.toNat 32 (by omega) hv (by omega)
  have hvl : v.toNat * 2 ^ lo.toNat < 2 ^ 32 := by
    have a : (v.toNat + 1) * 2 ^ lo.toNat ≤ 2 ^ wd.toNat * 2 ^ lo.toNat := Nat.mul_le_mul_right _ hv
    rw [← Nat.pow_add] at a
    have b := npow_le (n := wd.toNat + lo.toNat) (m := 32) (by omega)
    have c := Nat.two_pow_pos lo.toNat
    rw [Nat.add_mul] at a
    omega
  have ha : getN x.toNat lo.toNat wd.toNat * 2 ^ lo.toNat ≤ x.toNat := by
    have := split3 x.toNat lo.toNat wd.toNat
    rw [Nat.mul_comm (getN x.toNat lo.toNat wd.toNat)]
    omega
  have e1 : getI x lo wd * 2 ^ lo.toNat = ((getN x.toNat lo.toNat wd.toNat * 2 ^ lo.toNat : Nat) : Int) := by rw [getI_of h, ipow, Int.natCast_mul]
  have e2 : v * 2 ^ lo.toNat = ((v.toNat * 2 ^ lo.toNat : Nat) : Int) := by rw [ipow, Int.natCast_mul, Int.toNat_of_nonneg v1]
  rw [e1, e2, putI_of h h']
  have e3 : putN x.toNat lo.toNat wd.toNat v.toNat = x.toNat - getN x.toNat lo.toNat wd.toNat * 2 ^ lo.toNat + v.toNat * 2 ^ lo.toNat := rfl
  refine ⟨by omega, by omega, by omega, by omega, by omega, by omega, by omega⟩
theorem putOk_pow (wd v : Int) (hv : U32 v) : putOk wd v = decide (v < 2 ^ wd.toNat) := by
  obtain ⟨v1, v2⟩ := hv
  unfold putOk
  rw [ipow]
  exact decide_eq_decide.2 (by omega)

end Go.Proofs.YtjojflodhghdbaaDoor
