/- The contracts of the document's answer, layer 1: pow, Lies, Get, Put, Bit, Low. -/
import Derived.Test.YtopfaapcekiojaaGreatBitsW0
import Derived.Test.YtopfaapcekiojaaGreatBitsW1
namespace Go.Proofs.YtopfaapcekiojaaGreat
open Go.RowKit Go.Sort
attribute [local go_sem] cell_gr frozen_gr
set_option linter.unusedVariables false

theorem pow_same (n : Int) (w : World) (hn : I64 n) (h : n ≤ 63) : Calls Tryz.prog 64 #[.int .i64 n] w (Same (.int .u64 (2 ^ n.toNat)) w) := by
  obtain ⟨h1, h2⟩ := hn
  go_enter Tryz.func64, Tryz.ntmps64
  go_wp2
  go_loop [3, 4] (fun v i => ∃ k : Nat, k ≤ n.toNat ∧ i = .int .i64 k ∧ v = .int .u64 (2 ^ k)) (fun _ i => n.toNat - (intOf i).toNat)
  case atStart => exact ⟨0, by omega, rfl, rfl⟩
  case round =>
    obtain ⟨k, hk, rfl, rfl⟩ := hrel
    by_cases hlt : (k : Int) < n
    · have hp := pow_lt64 (k + 1) (by omega)
      have hs : (2 : Int) ^ (k + 1) = 2 ^ k * 2 := by rw [Int.pow_succ]
      have e : IntKind.u64.wrap (2 ^ k * 2) = 2 ^ (k + 1) := by rw [IntKind.wrap_u64, ← hs]; omega
      have E := Lib.hid e
      clear e hs hp
      go_wp2
      go_round
      case rel => exact ⟨k + 1, by omega, by go_num, by rw [E.out]⟩
      case measure => simp [intOf]; omega
    · have hk' : n.toNat = k := by omega
      have HK := Lib.hid hk'
      clear hk'
      go_wp2
      go_ret
      exact ⟨by rw [HK.out]; rfl, rfl⟩
theorem pow_any (n : Int) (w : World) (hn : I64 n) (h : n ≤ 63) : Calls Tryz.prog 64 #[.int .i64 n] w (Ret (.int .u64 (2 ^ n.toNat)) w) := of_same (pow_same n w hn h)

theorem rlies_any (a b : Int) (w : World) (ha : I64 a) (hb : I64 b) : Calls Tryz.prog 63 #[.agg #[.int .i64 a, .int .i64 b]] w (Ret (.bool (liesB a b)) w) := by
  obtain ⟨h1, h2⟩ := ha
  obtain ⟨h3, h4⟩ := hb
  by_cases h : 0 ≤ a ∧ a < 32 ∧ 1 ≤ b ∧ b ≤ 32 - a
  · rw [(liesB_iff a b).2 h]
    obtain ⟨g1, g2, g3, g4⟩ := h
    have g5 : b ≤ 32 := by omega
    go_enter Tryz.func63, Tryz.ntmps63
    go_wp2
    go_ret
    exact ⟨by simp, bnew _ _⟩
  · rw [liesB_not h]
    go_enter Tryz.func63, Tryz.ntmps63
    go_wp2
    all_goals (go_ret; exact ⟨by simp; try omega, bnew _ _⟩)

/-- a bit -/
def bitI (v n : Int) : Int := ((v.toNat / 2 ^ n.toNat % 2 : Nat) : Int)
/-- the lowest bits -/
def lowI (v n : Int) : Int := if 64 ≤ n then v else ((v.toNat % 2 ^ n.toNat : Nat) : Int)
theorem low_same (v n : Int) (w : World) (hv : U64 v) (hn : I64 n) : Calls Tryz.prog 141 #[.int .u64 v, .int .i64 n] w (Same (.int .u64 (lowI v n)) w) := by
  obtain ⟨v1, v2⟩ := hv
  by_cases h : 64 ≤ n
  · have e : lowI v n = v := if_pos h
    rw [e]
    obtain ⟨n1, n2⟩ := hn
    go_enter Tryz.func141, Tryz.ntmps141
    go_wp2
    go_ret
    exact ⟨rfl, rfl⟩
  · have c := fun W => pow_same n W hn (by omega)
    obtain ⟨n1, n2⟩ := hn
    have hp := pow_lt64 n.toNat (by omega)
    obtain ⟨p1, p2⟩ := hp
    have hne : ((2 : Int) ^ n.toNat = 0) = False := by apply eq_false; omega
    have e : v % 2 ^ n.toNat = lowI v n := by
      unfold lowI
      rw [if_neg h, ipow, Int.natCast_emod, Int.toNat_of_nonneg v1]
    have E := Lib.hid e
    clear e
    go_enter Tryz.func141, Tryz.ntmps141
    go_wp2_with (go_at_call 64; refine (c _).mono ?_; rintro e w1 ⟨rfl, rfl⟩)
    go_ret
    exact ⟨ret_int E.out, rfl⟩
theorem low_any (v n : Int) (w : World) (hv : U64 v) (hn : I64 n) : Calls Tryz.prog 141 #[.int .u64 v, .int .i64 n] w (Ret (.int .u64 (lowI v n)) w) := of_same (low_same v n w hv hn)

theorem rget_fact (x lo wd : Int) (hx : U32 x) (h : liesB lo wd = true) : x / 2 ^ lo.toNat % 2 ^ wd.toNat = getI x lo wd ∧ 0 ≤ getI x lo wd ∧ getI x lo wd < 4294967296 := by
  obtain ⟨g1, g2, g3, g4⟩ := (liesB_iff lo wd).1 h
  obtain ⟨x1, x2⟩ := hx
  have hl := getN_lt x.toNat lo.toNat wd.toNat
  have := npow_le (n := wd.toNat) (m := 32) (by omega)
  rw [getI_of h]
  refine ⟨?_, by omega, by omega⟩
  unfold getN
  rw [ipow, ipow, Int.natCast_emod, Int.natCast_ediv, Int.toNat_of_nonneg x1]
theorem rget_any (x lo wd : Int) (w : World) (hx : U32 x) (hlo : I64 lo) (hwd : I64 wd) : Calls Tryz.prog 34 #[.int .u32 x, .agg #[.int .i64 lo, .int .i64 wd]] w (Ret (.tuple #[.int .u32 (getI x lo wd), .int .i64 (getE lo wd)]) w) := by
  have c := fun W => rlies_any lo wd W hlo hwd
  by_cases h : liesB lo wd = true
  · obtain ⟨g1, g2, g3, g4⟩ := (liesB_iff lo wd).1 h
    obtain ⟨e, e1, e2⟩ := rget_fact x lo wd hx h
    have x1 := hx.1
    have x2 := hx.2
    have hq : 0 ≤ x / 2 ^ lo.toNat := Int.ediv_nonneg x1 (by have := (pow_lt64 lo.toNat (by omega)).1; omega)
    have hq2 : x / 2 ^ lo.toNat ≤ 4294967295 := Int.le_trans (Int.ediv_le_self _ x1) (by omega)
    have p1 := (pow_lt64 lo.toNat (by omega)).1
    have p2 := (pow_lt64 wd.toNat (by omega)).1
    have hr : 0 ≤ x / 2 ^ lo.toNat % 2 ^ wd.toNat := by rw [e]; exact e1
    have hr2 : x / 2 ^ lo.toNat % 2 ^ wd.toNat ≤ 4294967295 := by rw [e]; omega
    have hne : ((2 : Int) ^ lo.toNat = 0) = False := by apply eq_false; omega
    have hne2 : ((2 : Int) ^ wd.toNat = 0) = False := by apply eq_false; omega
    have E := Lib.hid e
    rw [getE_of h]
    rw [h] at c
    clear e e1 e2 hx
    go_enter Tryz.func34, Tryz.ntmps34
    go_wp2_with (go_at_call 63; refine (c _).mono ?_; rintro e w1 ⟨rfl, hb1⟩)
    have hc1 := (bcell hb1).1
    have hz : w.heap.size < w1.heap.size := by have := hb1.size; simp at this; omega
    refine wp_region_quiet_below (by kernel_rfl) (by kernel_rfl) ?_
    repeat (go_big_quiet_step (exact gr (pow_any _ _ ⟨by omega, by omega⟩ (by omega))))
    refine wpQuiet_nil ?_
    intro w2 hw2
    have hb2 := of_gr hw2
    clear hw2
    go_wp2
    go_ret2
    exact ⟨ret_two E.out rfl, bthen (bone hb1) hb2 (by omega)⟩
  · have h : liesB lo wd = false := by simpa using h
    rw [getI_no h, getE_no h]
    rw [h] at c
    go_enter Tryz.func34, Tryz.ntmps34
    go_wp2_with (go_at_call 63; refine (c _).mono ?_; rintro e w1 ⟨rfl, hb1⟩)
    go_ret2
    exact ⟨rfl, bone hb1⟩

theorem rput_fact (x lo wd v : Int) (hx : U32 x) (hv : U32 v) (h : liesB lo wd = true) (h' : putOk wd v = true) :
    0 ≤ getI x lo wd * 2 ^ lo.toNat ∧ getI x lo wd * 2 ^ lo.toNat ≤ x ∧ 0 ≤ v * 2 ^ lo.toNat ∧ v * 2 ^ lo.toNat < 4294967296 ∧ x - getI x lo wd * 2 ^ lo.toNat + v * 2 ^ lo.toNat = putI x lo wd v ∧ U32 (putI x lo wd v) := by
  obtain ⟨g1, g2, g3, g4⟩ := (liesB_iff lo wd).1 h
  obtain ⟨x1, x2⟩ := hx
  obtain ⟨v1, v2⟩ := hv
  have hv : v.toNat < 2 ^ wd.toNat := by simpa [putOk] using h'
  have hp := putN_lt x.toNat lo.toNat wd.toNat v.toNat 32 (by omega) hv (by omega)
  have hvl : v.toNat * 2 ^ lo.toNat < 2 ^ 32 := by
    have a : (v.toNat + 1) * 2 ^ lo.toNat ≤ 2 ^ wd.toNat * 2 ^ lo.toNat := Nat.mul_le_mul_right _ hv
    rw [← Nat.pow_add] at a
    have b := npow_le (n := wd.toNat + lo.toNat) (m := 32) (by omega)
    have c := Nat.two_pow_pos lo.toNat
    rw [Nat.add_mul] at a
    omega
  have ha : getN x.toNat lo.toNat wd.toNat * 2 ^ lo.toNat ≤ x.toNat := by
    have := split3 x.toNat lo.toNat wd.toNat
    rw [Nat.mul_comm (getN x.toNat lo.toNat wd.toNat)]
    omega
  have e1 : getI x lo wd * 2 ^ lo.toNat = ((getN x.toNat lo.toNat wd.toNat * 2 ^ lo.toNat : Nat) : Int) := by rw [getI_of h, ipow, Int.natCast_mul]
  have e2 : v * 2 ^ lo.toNat = ((v.toNat * 2 ^ lo.toNat : Nat) : Int) := by rw [ipow, Int.natCast_mul, Int.toNat_of_nonneg v1]
  rw [e1, e2, putI_of h h']
  have e3 : putN x.toNat lo.toNat wd.toNat v.toNat = x.toNat - getN x.toNat lo.toNat wd.toNat * 2 ^ lo.toNat + v.toNat * 2 ^ lo.toNat := rfl
  refine ⟨by omega, by omega, by omega, by omega, by omega, by omega, by omega⟩
theorem putOk_pow (wd v : Int) (hv : U32 v) : putOk wd v = decide (v < 2 ^ wd.toNat) := by
  obtain ⟨v1, v2⟩ := hv
  unfold putOk
  rw [ipow]
  exact decide_eq_decide.2 (by omega)

theorem rput_any (x lo wd v : Int) (w : World) (hx : U32 x) (hv : U32 v) (hlo : I64 lo) (hwd : I64 wd) : Calls Tryz.prog 35 #[.int .u32 x, .agg #[.int .i64 lo, .int .i64 wd], .int .u32 v] w (Ret (.tuple #[.int .u32 (putI x lo wd v), .int .i64 (putE lo wd v)]) w) := by
  have c := fun W => rlies_any lo wd W hlo hwd
  by_cases h : liesB lo wd = true
  · obtain ⟨g1, g2, g3, g4⟩ := (liesB_iff lo wd).1 h
    have hlen := putOk_pow wd v hv
    have v1 := hv.1
    have v2 := hv.2
    rw [h] at c
    by_cases h' : putOk wd v = true
    · have cg := fun W => rget_any x lo wd W hx hlo hwd
      rw [getE_of h] at cg
      obtain ⟨f1, f2, f3, f4, f5, f6⟩ := rput_fact x lo wd v hx hv h h'
      obtain ⟨_, f7, f8⟩ := rget_fact x lo wd hx h
      have E := Lib.hid f5
      have f9 : 0 ≤ x - getI x lo wd * 2 ^ lo.toNat + v * 2 ^ lo.toNat := by rw [f5]; exact f6.1
      have f10 : x - getI x lo wd * 2 ^ lo.toNat + v * 2 ^ lo.toNat ≤ 4294967295 := by rw [f5]; have := f6.2; omega
      have x1 := hx.1
      have x2 := hx.2
      rw [putE_of h h']
      have hd : decide (2 ^ wd.toNat ≤ v) = false := by rw [h'] at hlen; simp at hlen; simpa using hlen
      clear hlen f5 f6 hx hv
      go_enter Tryz.func35, Tryz.ntmps35
      go_wp2_with (first
        | (go_at_call 63; refine (c _).mono ?_; rintro e w1 ⟨rfl, hb1⟩; have hc1 := (bcell hb1).1; have hz1 : w.heap.size < w1.heap.size := blt hb1 (by simp))
        | (go_at_call 64; refine (pow_any _ _ ⟨by omega, by omega⟩ (by omega)).mono ?_; rintro e w2 ⟨rfl, hb2⟩; have hc2 := (bcell hb2).1; have hz2 : w.heap.size < w2.heap.size := blt hb2 hz1)
        | (go_at_call 34; refine (cg _).mono ?_; rintro e w3 ⟨rfl, hb3⟩; have hc3 := (bcell hb3).1; have hz3 : w.heap.size < w3.heap.size := blt hb3 hz2))
      refine wp_region_quiet_below (by kernel_rfl) (by kernel_rfl) ?_
      repeat (go_big_quiet_step (exact gr (pow_any _ _ ⟨by omega, by omega⟩ (by omega))))
      refine wpQuiet_nil ?_
      intro w4 hw4
      have hb4 := of_gr hw4
      clear hw4
      go_wp2
      go_ret2
      exact ⟨ret_two E.out rfl, bthen (bthen (bthen (bone hb1) hb2 (by omega)) hb3 (by omega)) hb4 (by omega)⟩
    · have h' : putOk wd v = false := by simpa using h'
      rw [putI_big h', putE_big h h']
      have hd : decide (2 ^ wd.toNat ≤ v) = true := by rw [h'] at hlen; simp at hlen; simpa using hlen
      clear hlen
      go_enter Tryz.func35, Tryz.ntmps35
      go_wp2_with (first
        | (go_at_call 63; refine (c _).mono ?_; rintro e w1 ⟨rfl, hb1⟩; have hc1 := (bcell hb1).1; have hz1 : w.heap.size < w1.heap.size := blt hb1 (by simp))
        | (go_at_call 64; refine (pow_any _ _ ⟨by omega, by omega⟩ (by omega)).mono ?_; rintro e w2 ⟨rfl, hb2⟩))
      go_ret2
      exact ⟨rfl, bthen (bone hb1) hb2 (by omega)⟩
  · have h : liesB lo wd = false := by simpa using h
    rw [putI_no h, putE_no h]
    rw [h] at c
    go_enter Tryz.func35, Tryz.ntmps35
    go_wp2_with (go_at_call 63; refine (c _).mono ?_; rintro e w1 ⟨rfl, hb1⟩)
    go_ret2
    exact ⟨rfl, bone hb1⟩
end Go.Proofs.YtopfaapcekiojaaGreat

/- The contracts of the document's answer, layer 1: Sign, Ones, Turn, Fits. -/
namespace Go.Proofs.YtopfaapcekiojaaGreat
open Go.RowKit Go.Sort
attribute [local go_sem] cell_gr frozen_gr
set_option linter.unusedVariables false

theorem bitI_bd (v n : Int) : 0 ≤ bitI v n ∧ bitI v n ≤ 1 := by unfold bitI; omega
theorem pow_lt63 (n : Nat) (h : n < 63) : (1 : Int) ≤ 2 ^ n ∧ (2 : Int) ^ n ≤ 4611686018427387904 := by
  have h1 : (2 : Nat) ^ n ≤ 2 ^ 62 := npow_le (by omega)
  have h2 : 0 < (2 : Nat) ^ n := Nat.two_pow_pos n
  rw [ipow]; omega
theorem sign_step (v : Int) (k : Nat) (hk : k < 63) : 0 ≤ bitI v k * 2 ^ k ∧ bitI v k * 2 ^ k ≤ 4611686018427387904 ∧ ((v.toNat % 2 ^ k : Nat) : Int) + bitI v k * 2 ^ k = ((v.toNat % 2 ^ (k + 1) : Nat) : Int) ∧ ((v.toNat % 2 ^ k : Nat) : Int) < 4611686018427387904 := by
  have h1 : (2 : Nat) ^ k ≤ 2 ^ 62 := npow_le (by omega)
  have h2 : 0 < (2 : Nat) ^ k := Nat.two_pow_pos k
  have h3 : v.toNat % 2 ^ k < 2 ^ k := Nat.mod_lt _ h2
  have e : bitI v k * 2 ^ k = ((v.toNat / 2 ^ k % 2 * 2 ^ k : Nat) : Int) := by unfold bitI; rw [ipow, Int.natCast_mul]; rfl
  have hle : v.toNat / 2 ^ k % 2 * 2 ^ k ≤ 2 ^ k := by
    have : v.toNat / 2 ^ k % 2 ≤ 1 := by omega
    have := Nat.mul_le_mul_right (2 ^ k) this
    omega
  rw [e, mod_step]
  omega
theorem sign_last (v n : Int) (h1 : 1 ≤ n) (h2 : n ≤ 64) : signI v n = if bitI v (n - 1) = 1 then ((v.toNat % 2 ^ (n.toNat - 1) : Nat) : Int) - 2 ^ (n.toNat - 1) else ((v.toNat % 2 ^ (n.toNat - 1) : Nat) : Int) := by
  unfold signI signN bitI
  rw [if_pos ((wideB_iff n).2 ⟨h1, h2⟩)]
  have e1 : n.toNat = n.toNat - 1 + 1 := by omega
  have e2 : (n - 1).toNat = n.toNat - 1 := by omega
  rw [e2]
  generalize n.toNat - 1 = m at *
  rw [e1, mod_step]
  have h3 : v.toNat % 2 ^ m < 2 ^ m := Nat.mod_lt _ (Nat.two_pow_pos _)
  have h4 : v.toNat / 2 ^ m % 2 = 0 ∨ v.toNat / 2 ^ m % 2 = 1 := by omega
  have e3 : 2 ^ (m + 1) = 2 * 2 ^ m := by rw [Nat.pow_succ, Nat.mul_comm]
  have e4 : (2 : Int) ^ m = ((2 ^ m : Nat) : Int) := ipow m
  rw [e3, e4]
  rcases h4 with h4 | h4
  · rw [h4, if_neg (by omega), if_neg (by omega)]; omega
  · rw [h4, if_pos (by omega), if_pos (by omega)]; omega
theorem wrap_low (m p : Int) (h1 : 0 ≤ m) (h2 : m < p) (h3 : p ≤ 9223372036854775808) : wrap64 (m + wrap64 (-1 - wrap64 (wrap64 p - 1))) = m - p := by unfold wrap64; omega
end Go.Proofs.YtopfaapcekiojaaGreat

/- The contract of the document's answer, layer 1: Turn. -/
namespace Go.Proofs.YtopfaapcekiojaaGreat
open Go.RowKit Go.Sort
attribute [local go_sem] cell_gr frozen_gr
set_option linter.unusedVariables false

theorem low_ok (v n : Int) (hv : U64 v) (h1 : 1 ≤ n) (h2 : n ≤ 64) : (lowI v n != v) = !turnOk v n := by
  obtain ⟨v1, v2⟩ := hv
  unfold lowI turnOk
  by_cases h : 64 ≤ n
  · have e : n = 64 := by omega
    subst e
    rw [if_pos h]
    have : v.toNat < 2 ^ (64 : Int).toNat := by show v.toNat < 2 ^ 64; omega
    simpa using v2
  · rw [if_neg h]
    by_cases hl : v.toNat < 2 ^ n.toNat
    · rw [Nat.mod_eq_of_lt hl, Int.toNat_of_nonneg v1]; simp [hl]
    · have := Nat.mod_lt v.toNat (Nat.two_pow_pos n.toNat)
      have hne : ((v.toNat % 2 ^ n.toNat : Nat) : Int) ≠ v := by omega
      have e1 : (((v.toNat % 2 ^ n.toNat : Nat) : Int) != v) = true := by rw [bne_iff_ne]; exact hne
      rw [e1]; simp [hl]
/-- one round -/
theorem turn_round (v n k : Int) (i : Nat) (hv : v.toNat < 2 ^ n.toNat) (h1 : 1 ≤ n) (h2 : n ≤ 64) (hk0 : 0 ≤ k) (hk : k < n) (hi : (i : Int) < n) (j : Int) (hj : j = (i : Int) - k ∧ 0 ≤ j ∨ j = (i : Int) - k + n ∧ (i : Int) - k < 0) :
    0 ≤ j ∧ j ≤ 63 ∧ 0 ≤ bitI v i * 2 ^ j.toNat ∧ bitI v i * 2 ^ j.toNat ≤ 9223372036854775808 ∧ 0 ≤ ((turnPart v.toNat n.toNat k.toNat i : Nat) : Int) ∧ ((turnPart v.toNat n.toNat k.toNat i : Nat) : Int) + bitI v i * 2 ^ j.toNat ≤ 18446744073709551615 ∧
    ((turnPart v.toNat n.toNat k.toNat i : Nat) : Int) + bitI v i * 2 ^ j.toNat = ((turnPart v.toNat n.toNat k.toNat (i + 1) : Nat) : Int) := by
  have hj0 : 0 ≤ j ∧ j ≤ 63 := by omega
  have e : bitI v i * 2 ^ j.toNat = ((v.toNat / 2 ^ i % 2 * 2 ^ j.toNat : Nat) : Int) := by unfold bitI; rw [ipow, Int.natCast_mul]; rfl
  have hs : turnPart v.toNat n.toNat k.toNat (i + 1) = turnPart v.toNat n.toNat k.toNat i + v.toNat / 2 ^ i % 2 * 2 ^ j.toNat := by
    rcases hj with ⟨hj1, hj2⟩ | ⟨hj1, hj2⟩
    · have : j.toNat = i - k.toNat := by omega
      rw [this]; exact turnPart_high _ _ _ _ (by omega)
    · have : j.toNat = n.toNat - k.toNat + i := by omega
      rw [this]; exact turnPart_low _ _ _ _ (by omega)
  have hlt := turnPart_lt v.toNat n.toNat k.toNat (i + 1) hv (by omega)
  have hle : 2 ^ n.toNat ≤ 2 ^ 64 := npow_le (by omega)
  have hb : v.toNat / 2 ^ i % 2 * 2 ^ j.toNat ≤ 2 ^ 63 := by
    have a : v.toNat / 2 ^ i % 2 ≤ 1 := by omega
    have b := Nat.mul_le_mul_right (2 ^ j.toNat) a
    have c := npow_le (n := j.toNat) (m := 63) (by omega)
    omega
  rw [e, hs]
  rw [hs] at hlt
  generalize v.toNat / 2 ^ i % 2 * 2 ^ j.toNat = q at *
  generalize turnPart v.toNat n.toNat k.toNat i = t at *
  omega
end Go.Proofs.YtopfaapcekiojaaGreat
