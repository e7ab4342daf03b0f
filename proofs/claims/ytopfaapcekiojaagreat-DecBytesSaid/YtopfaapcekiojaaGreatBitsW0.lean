/- The contracts of the program's package bits: lies, Ones, mask, Get, Put. -/
import Derived.Test.YtopfaapcekiojaaGreatBase
import Derived.Test.YtopfaapcekiojaaGreatShelf
import Derived.Test.YtopfaapcekiojaaGreatBitsM
namespace Go.Proofs.YtopfaapcekiojaaGreat
open Go.RowKit Go.Sort
attribute [local go_sem] cell_gr frozen_gr
set_option linter.unusedVariables false

def liesB (a b : Int) : Bool := decide (0 ≤ a) && decide (a < 32) && decide (1 ≤ b) && decide (b ≤ 32 - a)
theorem liesB_iff (a b : Int) : liesB a b = true ↔ 0 ≤ a ∧ a < 32 ∧ 1 ≤ b ∧ b ≤ 32 - a := by simp [liesB, and_assoc]
theorem liesB_not {a b : Int} (h : ¬ (0 ≤ a ∧ a < 32 ∧ 1 ≤ b ∧ b ≤ 32 - a)) : liesB a b = false := by
  rw [Bool.eq_false_iff]; intro h'; exact h ((liesB_iff a b).1 h')

theorem lies_any (a b : Int) (w : World) (ha : I64 a) (hb : I64 b) : Calls Tryz.prog 145 #[.agg #[.int .i64 a, .int .i64 b]] w (Ret (.bool (liesB a b)) w) := by
  obtain ⟨h1, h2⟩ := ha
  obtain ⟨h3, h4⟩ := hb
  by_cases h : 0 ≤ a ∧ a < 32 ∧ 1 ≤ b ∧ b ≤ 32 - a
  · rw [(liesB_iff a b).2 h]
    obtain ⟨g1, g2, g3, g4⟩ := h
    go_enter Tryz.func145, Tryz.ntmps145
    go_wp2
    go_ret
    exact ⟨by simp, bnew _ _⟩
  · rw [liesB_not h]
    go_enter Tryz.func145, Tryz.ntmps145
    go_wp2
    all_goals (go_ret; exact ⟨by simp; try omega, bnew _ _⟩)

def onesI (n : Int) : Int := if 64 ≤ n then 18446744073709551615 else 2 ^ n.toNat - 1
theorem ones_hi (n : Int) (h : 64 ≤ n) : onesI n = 18446744073709551615 := if_pos h
theorem ones_neg (n : Int) (h : n < 0) : onesI n = 0 := by
  have : n.toNat = 0 := by omega
  unfold onesI; rw [if_neg (by omega), this]; rfl
theorem onesI_nat (n : Int) (h : n < 64) : onesI n = ((2 ^ n.toNat - 1 : Nat) : Int) := by
  have := Nat.two_pow_pos n.toNat
  unfold onesI; rw [if_neg (by omega), ipow]; omega
theorem onesI_bd (n : Int) : U64 (onesI n) := by
  by_cases h : 64 ≤ n
  · rw [ones_hi n h]; exact ⟨by decide, by decide⟩
  · have := pow_lt64 n.toNat (by omega)
    unfold onesI; rw [if_neg h]; exact ⟨by omega, by omega⟩
theorem ones_any (n : Int) (w : World) (hn : I64 n) : Calls Tryz.prog 144 #[.int .i64 n] w (Ret (.int .u64 (onesI n)) w) := by
  obtain ⟨h1, h2⟩ := hn
  by_cases h : 64 ≤ n
  · rw [ones_hi n h]
    go_enter Tryz.func144, Tryz.ntmps144
    go_wp2
    go_ret
    exact ⟨rfl, Below.refl _ _⟩
  · by_cases h0 : n < 0
    · rw [ones_neg n h0]
      have hm : max n 0 = 0 := by omega
      go_enter Tryz.func144, Tryz.ntmps144
      go_wp2
      go_ret
      exact ⟨by simp, Below.refl _ _⟩
    · have e : IntKind.u64.wrap (IntKind.u64.wrap (2 ^ n.toNat) - 1) = onesI n := by
        have := pow_lt64 n.toNat (by omega)
        unfold onesI; rw [if_neg h, IntKind.wrap_u64, IntKind.wrap_u64]; omega
      have E := Lib.hid e
      clear e
      have hm : max n 0 = n := by omega
      go_enter Tryz.func144, Tryz.ntmps144
      go_wp2
      go_ret
      exact ⟨ret_int E.out, Below.refl _ _⟩

def maskI (lo wd : Int) : Int := IntKind.u32.wrap (IntKind.u32.wrap (onesI wd) * 2 ^ lo.toNat)
theorem maskI_eq (lo wd : Int) (h : liesB lo wd = true) : maskI lo wd = ((mskN lo.toNat wd.toNat : Nat) : Int) := by
  obtain ⟨g1, g2, g3, g4⟩ := (liesB_iff lo wd).1 h
  have h1 := mskN_lt lo.toNat wd.toNat 32 (by omega)
  have h2 : 2 ^ wd.toNat - 1 < 2 ^ 32 := by
    have := npow_le (n := wd.toNat) (m := 32) (by omega)
    have := Nat.two_pow_pos wd.toNat
    omega
  unfold maskI
  rw [onesI_nat wd (by omega), IntKind.wrap_u32', IntKind.wrap_u32', ipow]
  have e : ((2 ^ wd.toNat - 1 : Nat) : Int) % 4294967296 = ((2 ^ wd.toNat - 1 : Nat) : Int) := by omega
  rw [e]
  have e2 : ((2 ^ wd.toNat - 1 : Nat) : Int) * ((2 ^ lo.toNat : Nat) : Int) = ((mskN lo.toNat wd.toNat : Nat) : Int) := by unfold mskN; rw [Int.natCast_mul]
  rw [e2]; omega
theorem mask_any (lo wd : Int) (w : World) (h : liesB lo wd = true) : Calls Tryz.prog 146 #[.agg #[.int .i64 lo, .int .i64 wd]] w (Ret (.int .u32 (maskI lo wd)) w) := by
  obtain ⟨g1, g2, g3, g4⟩ := (liesB_iff lo wd).1 h
  have c := fun W => ones_any wd W ⟨by omega, by omega⟩
  go_enter Tryz.func146, Tryz.ntmps146
  go_wp2
  refine wp_region_quiet_below (by kernel_rfl) (by kernel_rfl) ?_
  repeat (quiet_step (exact gr (c _)))
  refine wpQuiet_nil ?_
  intro w2 hw2
  have hb2 := of_gr hw2
  clear hw2
  go_wp2
  go_ret
  exact ⟨ret_int rfl, bone hb2⟩

/-- what Get answers -/
def getI (x lo wd : Int) : Int := if liesB lo wd then ((getN x.toNat lo.toNat wd.toNat : Nat) : Int) else 0
def getE (lo wd : Int) : Int := if liesB lo wd then 0 else 10
theorem getI_of {x lo wd : Int} (h : liesB lo wd = true) : getI x lo wd = ((getN x.toNat lo.toNat wd.toNat : Nat) : Int) := by unfold getI; rw [if_pos h]
theorem getE_of {lo wd : Int} (h : liesB lo wd = true) : getE lo wd = 0 := by unfold getE; rw [if_pos h]
theorem getI_no {x lo wd : Int} (h : liesB lo wd = false) : getI x lo wd = 0 := by unfold getI; rw [if_neg (by rw [h]; decide)]
theorem getE_no {lo wd : Int} (h : liesB lo wd = false) : getE lo wd = 10 := by unfold getE; rw [if_neg (by rw [h]; decide)]
theorem get_fact (x lo wd : Int) (hx : U32 x) (h : liesB lo wd = true) : bits BinOp.and IntKind.u32 x (maskI lo wd) / 2 ^ lo.toNat = getI x lo wd := by
  obtain ⟨g1, g2, g3, g4⟩ := (liesB_iff lo wd).1 h
  obtain ⟨x1, x2⟩ := hx
  have h1 := mskN_lt lo.toNat wd.toNat 32 (by omega)
  rw [maskI_eq lo wd h, getI_of h, u32_and x _ x1 x2 (by omega) (by omega), Int.toNat_natCast, ipow, ← and_msk, Int.natCast_ediv]

theorem get_any (x lo wd : Int) (w : World) (hx : U32 x) (hlo : I64 lo) (hwd : I64 wd) : Calls Tryz.prog 131 #[.int .u32 x, .agg #[.int .i64 lo, .int .i64 wd]] w (Ret (.tuple #[.int .u32 (getI x lo wd), .int .i64 (getE lo wd)]) w) := by
  have c := fun W => lies_any lo wd W hlo hwd
  by_cases h : liesB lo wd = true
  · obtain ⟨g1, g2, g3, g4⟩ := (liesB_iff lo wd).1 h
    have c2 := fun W => mask_any lo wd W h
    have E := Lib.hid (get_fact x lo wd hx h)
    rw [getE_of h]
    rw [h] at c
    go_enter Tryz.func131, Tryz.ntmps131
    go_wp2_with (go_at_call 145; refine (c _).mono ?_; rintro e w1 ⟨rfl, hb1⟩)
    have hc1 := (bcell hb1).1
    have hz : w.heap.size < w1.heap.size := by have := hb1.size; simp at this; omega
    refine wp_region_quiet_below (by kernel_rfl) (by kernel_rfl) ?_
    repeat (quiet_step (exact gr (c2 _)))
    refine wpQuiet_nil ?_
    intro w2 hw2
    have hb2 := of_gr hw2
    clear hw2
    go_wp2
    go_ret2
    exact ⟨ret_two E.out rfl, bthen (bone hb1) hb2 (by omega)⟩
  · have h : liesB lo wd = false := by simpa using h
    rw [getI_no h, getE_no h]
    rw [h] at c
    go_enter Tryz.func131, Tryz.ntmps131
    go_wp2_with (go_at_call 145; refine (c _).mono ?_; rintro e w1 ⟨rfl, hb1⟩)
    go_ret2
    exact ⟨rfl, bone hb1⟩

/-- what Put answers -/
def putOk (wd v : Int) : Bool := decide (v.toNat < 2 ^ wd.toNat)
def putI (x lo wd v : Int) : Int := if liesB lo wd && putOk wd v then ((putN x.toNat lo.toNat wd.toNat v.toNat : Nat) : Int) else 0
def putE (lo wd v : Int) : Int := if liesB lo wd then if putOk wd v then 0 else 7 else 10
theorem putI_of {x lo wd v : Int} (h : liesB lo wd = true) (h' : putOk wd v = true) : putI x lo wd v = ((putN x.toNat lo.toNat wd.toNat v.toNat : Nat) : Int) := by unfold putI; rw [if_pos (by rw [h, h']; rfl)]
theorem putE_of {lo wd v : Int} (h : liesB lo wd = true) (h' : putOk wd v = true) : putE lo wd v = 0 := by unfold putE; rw [if_pos h, if_pos h']
theorem putI_no {x lo wd v : Int} (h : liesB lo wd = false) : putI x lo wd v = 0 := by unfold putI; rw [if_neg (by rw [h]; simp)]
theorem putE_no {lo wd v : Int} (h : liesB lo wd = false) : putE lo wd v = 10 := by unfold putE; rw [if_neg (by rw [h]; decide)]
theorem putI_big {x lo wd v : Int} (h' : putOk wd v = false) : putI x lo wd v = 0 := by unfold putI; rw [if_neg (by rw [h']; simp)]
theorem putE_big {lo wd v : Int} (h : liesB lo wd = true) (h' : putOk wd v = false) : putE lo wd v = 7 := by unfold putE; rw [if_pos h, if_neg (by rw [h']; decide)]
theorem put_fact (x lo wd v : Int) (hx : U32 x) (hv : U32 v) (h : liesB lo wd = true) (h' : putOk wd v = true) :
    bits BinOp.or IntKind.u32 (bits BinOp.andNot IntKind.u32 x (maskI lo wd)) (IntKind.u32.wrap (v * 2 ^ lo.toNat)) = putI x lo wd v := by
  obtain ⟨g1, g2, g3, g4⟩ := (liesB_iff lo wd).1 h
  obtain ⟨x1, x2⟩ := hx
  obtain ⟨v1, v2⟩ := hv
  have hv : v.toNat < 2 ^ wd.toNat := by simpa [putOk] using h'
  have h1 := mskN_lt lo.toNat wd.toNat 32 (by omega)
  have hp := putN_lt x.toNat lo.toNat wd.toNat v.toNat 32 (by omega) hv (by omega)
  have hvl : v.toNat * 2 ^ lo.toNat < 2 ^ 32 := by
    have a : (v.toNat + 1) * 2 ^ lo.toNat ≤ 2 ^ wd.toNat * 2 ^ lo.toNat := Nat.mul_le_mul_right _ hv
    rw [← Nat.pow_add] at a
    have b := npow_le (n := wd.toNat + lo.toNat) (m := 32) (by omega)
    have c := Nat.two_pow_pos lo.toNat
    rw [Nat.add_mul] at a
    omega
  have ev : v * 2 ^ lo.toNat = ((v.toNat * 2 ^ lo.toNat : Nat) : Int) := by rw [ipow, Int.natCast_mul, Int.toNat_of_nonneg v1]
  have ew : IntKind.u32.wrap (v * 2 ^ lo.toNat) = ((v.toNat * 2 ^ lo.toNat : Nat) : Int) := by rw [ev, IntKind.wrap_u32']; omega
  have ha : x.toNat &&& (4294967295 - mskN lo.toNat wd.toNat) < 2 ^ 32 := Nat.lt_of_le_of_lt Nat.and_le_left (by omega)
  rw [ew, maskI_eq lo wd h, putI_of h h', u32_andNot x _ x1 x2 (by omega) (by omega), Int.toNat_natCast, u32_or _ _ (by omega) (by omega) (by omega) (by omega), Int.toNat_natCast, Int.toNat_natCast]
  exact congrArg Nat.cast (put_bits x.toNat lo.toNat wd.toNat v.toNat 32 (by omega) hv (by omega))
theorem putOk_len (wd v : Int) (hv : U32 v) (hw : 0 ≤ wd) : putOk wd v = !decide (wd < ((Lib.bitLen v.toNat : Nat) : Int)) := by
  obtain ⟨v1, v2⟩ := hv
  have := bitLen_le wd.toNat v.toNat (by omega)
  unfold putOk
  rw [← decide_not]
  exact decide_eq_decide.2 (by omega)

theorem put_any (x lo wd v : Int) (w : World) (hx : U32 x) (hv : U32 v) (hlo : I64 lo) (hwd : I64 wd) : Calls Tryz.prog 143 #[.int .u32 x, .agg #[.int .i64 lo, .int .i64 wd], .int .u32 v] w (Ret (.tuple #[.int .u32 (putI x lo wd v), .int .i64 (putE lo wd v)]) w) := by
  have c := fun W => lies_any lo wd W hlo hwd
  by_cases h : liesB lo wd = true
  · obtain ⟨g1, g2, g3, g4⟩ := (liesB_iff lo wd).1 h
    have c2 := fun W => mask_any lo wd W h
    have c3 := fun W => same_ret (Tryz.bits_Len32 v W hv.1 (Int.le_of_lt_add_one hv.2))
    have hlen := putOk_len wd v hv (by omega)
    rw [h] at c
    by_cases h' : putOk wd v = true
    · have E := Lib.hid (put_fact x lo wd v hx hv h h')
      rw [putE_of h h']
      have hd : decide (wd < ((Lib.bitLen v.toNat : Nat) : Int)) = false := by rw [h'] at hlen; simpa using hlen
      clear hlen
      go_enter Tryz.func143, Tryz.ntmps143
      go_wp2_with (go_at_call 145; refine (c _).mono ?_; rintro e w1 ⟨rfl, hb1⟩)
      have hc1 := (bcell hb1).1
      have hz : w.heap.size < w1.heap.size := by have := hb1.size; simp at this; omega
      refine wp_region_quiet_below (by kernel_rfl) (by kernel_rfl) ?_
      repeat (quiet_step (exact gr (c3 _)))
      refine wpQuiet_nil ?_
      intro w2 hw2
      have hb2 := of_gr hw2
      clear hw2
      have hc2 := (bcell hb2).1
      have hz2 : w.heap.size < w2.heap.size := by have := hb2.size; omega
      go_wp2
      refine wp_region_quiet_below (by kernel_rfl) (by kernel_rfl) ?_
      repeat (quiet_step (exact gr (c2 _)))
      refine wpQuiet_nil ?_
      intro w3 hw3
      have hb3 := of_gr hw3
      clear hw3
      go_wp2
      go_ret2
      exact ⟨ret_two E.out rfl, bthen (bthen (bone hb1) hb2 (by omega)) hb3 (by omega)⟩
    · have h' : putOk wd v = false := by simpa using h'
      rw [putI_big h', putE_big h h']
      have hd : decide (wd < ((Lib.bitLen v.toNat : Nat) : Int)) = true := by rw [h'] at hlen; simpa using hlen
      clear hlen
      go_enter Tryz.func143, Tryz.ntmps143
      go_wp2_with (go_at_call 145; refine (c _).mono ?_; rintro e w1 ⟨rfl, hb1⟩)
      have hc1 := (bcell hb1).1
      have hz : w.heap.size < w1.heap.size := by have := hb1.size; simp at this; omega
      refine wp_region_quiet_below (by kernel_rfl) (by kernel_rfl) ?_
      repeat (quiet_step (exact gr (c3 _)))
      refine wpQuiet_nil ?_
      intro w2 hw2
      have hb2 := of_gr hw2
      clear hw2
      go_wp2
      go_ret2
      exact ⟨rfl, bthen (bone hb1) hb2 (by omega)⟩
  · have h : liesB lo wd = false := by simpa using h
    rw [putI_no h, putE_no h]
    rw [h] at c
    go_enter Tryz.func143, Tryz.ntmps143
    go_wp2_with (go_at_call 145; refine (c _).mono ?_; rintro e w1 ⟨rfl, hb1⟩)
    go_ret2
    exact ⟨rfl, bone hb1⟩
end Go.Proofs.YtopfaapcekiojaaGreat
