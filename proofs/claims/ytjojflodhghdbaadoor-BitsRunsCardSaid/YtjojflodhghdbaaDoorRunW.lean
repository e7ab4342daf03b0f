/- Runs: TrailingZeros64, the iterator, and the list of all runs. -/
import Derived.Test.YtjojflodhghdbaaDoorRunM
import Derived.Test.YtjojflodhghdbaaDoorBitsW1
import Derived.Test.YtjojflodhghdbaaDoorPopW
import Derived.Test.YtjojflodhghdbaaDoorQuietR
import Derived.Test.YtjojflodhghdbaaDoorEachW
import Derived.Shelf.Spec.TrailingZeros
import Derived.RangeFuncBox
import Derived.Maps.AppendAt
namespace Go.Proofs.YtjojflodhghdbaaDoor
open Go.RowKit Go.Sort Go.Shelf
attribute [local go_sem] Oper.semAt_some cell_gr frozen_gr wide_fn asked_wide
set_option linter.unusedVariables false

theorem tz_zero (w : World) : Calls Tryd.prog 30 #[.int .u64 0] w fun e w' => e = .returned (.int .i64 64) ∧ w' = w := by
  go_enter Tryd.func30, Tryd.ntmps30
  go_wp2
  go_ret
  exact ⟨rfl, rfl⟩
theorem tz_core (x k idx : Nat) (w : World) (hx0 : ((x : Int) == 0) = false)
    (key : IntKind.u64.wrap (bits BinOp.and IntKind.u64 (x : Int) (IntKind.u64.wrap (-(x : Int))) * 285870213051353865) / 288230376151711744 = (idx : Int))
    (hi : idx < 64) (hk : k < 64) (hcell : w.cell? ⟨0, idx, none⟩ = some (.int .u8 k)) :
    Calls Tryd.prog 30 #[.int .u64 x] w fun e w' => e = .returned (.int .i64 k) ∧ w' = w := by
  go_enter Tryd.func30, Tryd.ntmps30
  go_wp2_with (simp only [key])
  go_ret
  exact ⟨rfl, rfl⟩
theorem grown_of {W W' : World} (h : Below W.heap.size W W') : W.grownBy W' none := ⟨h.os, h.tape, h.output, h.size, fun k hk _ => h.block k hk⟩
/-- the table, in its variable -/
def Tab (w : World) : Prop := TabAt 0 Lib.deBruijn64tab w
theorem Tab.below {B : Nat} {w w' : World} (h : Tab w) (hb : Below B w w') (hB : 0 < B) : Tab w' := fun j hj => (hb.cell (p := ⟨0, j, none⟩) hB).trans (h j hj)
theorem tz_any (x : Nat) (hx : x < 18446744073709551616) (w : World) (hT : Tab w) : Calls Tryd.prog 30 #[.int .u64 x] w (Same (.int .i64 (Lib.ctz 64 x)) w) := by
  by_cases hx0 : x = 0
  · subst hx0
    exact to_same (tz_zero w)
  · obtain ⟨hlow, hk⟩ := Lib.lowest_bit 64 x hx0 hx
    obtain ⟨hi, htab⟩ := Lib.deBruijn64_at _ hk
    have hcell := hT _ hi
    rw [htab] at hcell
    exact to_same (tz_core x _ _ w (by simp; omega) (tz64_key x _ hx hx0 hlow) hi hk hcell)
theorem not_fact (q : Nat) (hq : q < 18446744073709551616) : bits BinOp.xor IntKind.u64 IntKind.u64.max (q : Int) = ((2 ^ 64 - 1 - q : Nat) : Int) := by
  have h1 : (BitVec.ofInt 64 (q : Int)).toNat = q := by
    rw [BitVec.ofInt_natCast, BitVec.toNat_ofNat]; exact Nat.mod_eq_of_lt (by omega)
  have h2 : (BitVec.ofInt 64 IntKind.u64.max).toNat = 2 ^ 64 - 1 := by decide
  have hx : (2 ^ 64 - 1) ^^^ q = 2 ^ 64 - 1 - q := by
    apply Nat.eq_of_testBit_eq
    intro i
    have := Nat.testBit_two_pow_sub_succ (x := q) (n := 64) (by omega) i
    rw [show 2 ^ 64 - (q + 1) = 2 ^ 64 - 1 - q by omega] at this
    rw [this, Nat.testBit_xor, Nat.testBit_two_pow_sub_one]
    by_cases hi : i < 64
    · simp [hi]
    · rw [Nat.testBit_lt_two_pow (x := q) (Nat.lt_of_lt_of_le (m := 2 ^ 64) (by omega) (npow_le (by omega)))]
      simp [hi]
  show IntKind.u64.wrap ((BitVec.ofInt 64 IntKind.u64.max ^^^ BitVec.ofInt 64 (q : Int)).toNat : Int) = _
  rw [BitVec.toNat_xor, h1, h2, hx, IntKind.wrap_u64]
  omega
theorem cut_fact (x a n : Nat) (hx : x < 18446744073709551616) (hn : a + n ≤ 64) : ∃ y : Nat, bits BinOp.andNot IntKind.u64 (x : Int) (IntKind.u64.wrap (onesI (n : Int) * 2 ^ a)) = (y : Int) ∧ y < 18446744073709551616 ∧ ∀ i, y.testBit i = (x.testBit i && !(decide (a ≤ i) && decide (i < a + n))) := by
  have hon : onesI (n : Int) = ((2 ^ n - 1 : Nat) : Int) := by
    by_cases h : n < 64
    · exact onesI_nat n (by omega)
    · obtain rfl : n = 64 := by omega
      decide
  have hp : 2 ^ (a + n) ≤ 2 ^ 64 := npow_le hn
  have hpa := Nat.two_pow_pos a
  have hpn := Nat.two_pow_pos n
  have hk : (2 ^ n - 1) * 2 ^ a < 2 ^ 64 := by
    have e : (2 ^ n - 1) * 2 ^ a = 2 ^ (a + n) - 2 ^ a := by rw [Nat.sub_mul, ← Nat.pow_add, Nat.one_mul, Nat.add_comm]
    rw [e]
    exact Nat.lt_of_lt_of_le (Nat.sub_lt (Nat.two_pow_pos _) hpa) hp
  have hm : IntKind.u64.wrap (onesI (n : Int) * 2 ^ a) = (((2 ^ n - 1) * 2 ^ a : Nat) : Int) := by
    rw [hon, ipow, ← Int.natCast_mul, IntKind.wrap_u64]
    generalize (2 ^ n - 1) * 2 ^ a = k at *
    omega
  have hkb : ∀ i, ((2 ^ n - 1) * 2 ^ a).testBit i = (decide (a ≤ i) && decide (i < a + n)) := fun i => by
    rw [Nat.testBit_mul_two_pow, Nat.testBit_two_pow_sub_one]
    by_cases h : a ≤ i
    · have : (i - a < n) = (i < a + n) := by apply propext; omega
      simp [h, this]
    · simp [h]
  generalize (2 ^ n - 1) * 2 ^ a = k at *
  have hk64 : k < 18446744073709551616 := hk
  refine ⟨x &&& (2 ^ 64 - 1 - k), ?_, Nat.lt_of_le_of_lt Nat.and_le_left hx, fun i => ?_⟩
  · have h1 : (BitVec.ofInt 64 (x : Int)).toNat = x := by
      rw [BitVec.ofInt_natCast, BitVec.toNat_ofNat]; exact Nat.mod_eq_of_lt (by omega)
    have h2 : (BitVec.ofInt 64 (k : Int)).toNat = k := by
      rw [BitVec.ofInt_natCast, BitVec.toNat_ofNat]; exact Nat.mod_eq_of_lt (by omega)
    rw [hm]
    show IntKind.u64.wrap ((BitVec.ofInt 64 (x : Int) &&& ~~~BitVec.ofInt 64 (k : Int)).toNat : Int) = _
    have hlt : x &&& (2 ^ 64 - 1 - k) < 18446744073709551616 := Nat.lt_of_le_of_lt Nat.and_le_left hx
    rw [BitVec.toNat_and, BitVec.toNat_not, h1, h2, IntKind.wrap_u64]
    generalize x &&& (2 ^ 64 - 1 - k) = z at *
    omega
  · have := Nat.testBit_two_pow_sub_succ (x := k) (n := 64) hk i
    rw [show 2 ^ 64 - (k + 1) = 2 ^ 64 - 1 - k by omega] at this
    rw [Nat.testBit_and, this, hkb]
    by_cases hi : i < 64
    · simp [hi]
    · rw [Nat.testBit_lt_two_pow (x := x) (Nat.lt_of_lt_of_le (m := 2 ^ 64) (by omega) (npow_le (by omega)))]
      simp
/-- a run that is told -/
def RunX : Type := { p : Nat × Nat // p.1 ≤ 64 ∧ p.2 ≤ 64 }
def runEnc (p : RunX) : Array Value := #[.int .i64 p.1.1, .int .i64 p.1.2]
def runNs (l : List RunX) : List (Nat × Nat) := l.map (fun p => p.1)
/-- the bits whose runs are told -/
def runB (v wd : Int) : Nat := v.toNat &&& (onesI wd).toNat
theorem runs_in (F : Fence) (n : Nat) (hF : F.fn 20) (hro : F.round = none) (v x : Int) (w : World) :
    CallsIn F n Tryd.prog 20 #[.int .u64 v, .int .i64 x] w fun e w' => e = .returned (.func (.func 29) #[] #[.pointer (some ⟨w.heap.size, 0, none⟩), .pointer (some ⟨w.heap.size + 1, 0, none⟩)]) ∧ w' = (w.alloc (.cells #[.int .u64 v] 22)).alloc (.cells #[.int .i64 x] 3) := by
  refine callsIn_of_wp Tryd.func20 rfl hF ?_ hro
  simp only [Tryd.ntmps20, List.size_toArray, List.length_cons, List.length_nil, Nat.reduceAdd, Nat.reduceSub, Array.replicate_succ, Array.replicate_zero, List.push_toArray, List.append_toArray, List.nil_append, List.cons_append]
  gi_wp2
  go_ret
  exact ⟨rfl, rfl⟩
set_option maxRecDepth 100000 in
set_option maxHeartbeats 4000000 in
theorem runs_stops (n : Nat) (hn : 1 ≤ n) (B1 B2 n₀ : Nat) (v x : Int) (hv : U64 v) (hx : I64 x) (w : World) (hb1 : B1 < n₀) (hb2 : B2 < n₀) (hg : 0 < n₀) (hn0 : n₀ ≤ w.heap.size)
    (hc1 : w.cell? ⟨B1, 0, none⟩ = some (.int .u64 v)) (hc2 : w.cell? ⟨B2, 0, none⟩ = some (.int .i64 x)) (hT : Tab w) :
    SeqStopsK Fence.wide n Tryd.prog 29 #[.pointer (some ⟨B1, 0, none⟩), .pointer (some ⟨B2, 0, none⟩)] runEnc (Below n₀) (fun xs => runNs xs = refR (fun i => (runB v x).testBit i) 64) (fun _ => True) 65 w := fun l J Jx W hW hJ _ hY h0 => by
  have hc1' := (hW.cell (p := ⟨B1, 0, none⟩) (by dsimp only; omega)).trans hc1
  have hc2' := (hW.cell (p := ⟨B2, 0, none⟩) (by dsimp only; omega)).trans hc2
  have hT' := hT.below hW (by omega)
  have hsz := hW.size
  have hon := onesI_bd x
  refine callsIn_of_wp Tryd.func29 rfl trivial ?_ rfl
  simp only [Tryd.ntmps29, List.size_toArray, List.length_cons, List.length_nil, Nat.reduceAdd, Nat.reduceSub, Array.replicate_succ, Array.replicate_zero, List.push_toArray, List.append_toArray, List.nil_append, List.cons_append]
  have ho := Lib.hid (fun W' => ones_any x W' hx)
  have hm : bits BinOp.and IntKind.u64 v (onesI x) = ((runB v x : Nat) : Int) := and_u64 v (onesI x) hv hon
  have hlm : runB v x < 18446744073709551616 := Nat.lt_of_le_of_lt Nat.and_le_left (by unfold U64 at hv; omega)
  generalize runB v x = m at *
  have hb1W : B1 < W.heap.size := by omega
  have hb2W : B2 < W.heap.size := by omega
  gi_wp2
  refine wpIn_region_quiet_below rfl (by kernel_rfl) (by kernel_rfl) ?_
  repeat (gi_big_quiet_step (exact grIn (ho.out _)))
  refine wpQuietIn_nil ?_
  intro w2 hw2
  have hbO := of_gr hw2
  clear hw2
  have hT2 := hT'.below hbO (by omega)
  have hJ2 := hJ _ _ _ _ h0 (grown_of hbO) (fun r e => by cases e)
  have hs2 := hbO.size
  clear hbO hT' h0 hm hon ho hc1 hc2 hc1' hc2' hT
  gi_wp2
  gi_loopw [4] (fun s wr => ∃ (p x : Nat) (pre : List RunX), s = .int .u64 x ∧ x < 18446744073709551616 ∧ (∀ i, x.testBit i = (decide (p ≤ i) && m.testBit i)) ∧ p ≤ 64 ∧ RunsTo (fun i => m.testBit i) p (runNs pre) ∧ pre.length ≤ p ∧ J pre wr ∧ Tab wr ∧ W.heap.size ≤ wr.heap.size) (fun s _ => (intOf s).toNat)
  case atStart => exact ⟨0, m, [], rfl, hlm, fun i => by simp, by omega, runsTo_zero _, by simp, hJ2, hT2, by omega⟩
  case round =>
    obtain ⟨p, x, pre, rfl, hx64, hxb, hp64, hR, hlen, hJs, hTs, hsr⟩ := hrel
    by_cases h0 : x = 0
    · have hz : refR (fun i => m.testBit i) 64 = runNs pre := runsTo_end hR hp64 (fun i hi => by
        have := hxb i
        rw [h0, Nat.zero_testBit] at this
        simpa [hi] using this.symm)
      have b : (((x : Nat) : Int) != 0) = false := by rw [h0]; rfl
      replace hz := Lib.hid hz.symm
      clear hxb hR h0
      gi_wp2
      go_end0
      exact ⟨⟨_, rfl⟩, .inl ⟨_, hz.out, hJs⟩⟩
    · have b : (((x : Nat) : Int) != 0) = true := by simp; omega
      obtain ⟨ca, cb, cc⟩ := ctz_bit h0 (by omega)
      have hca := tz_any x hx64
      obtain ⟨l1, l2, l3, l4, l5⟩ := ones_len (x := x) (a := Lib.ctz 64 x) (by omega)
      generalize Lib.ctz 64 x = a at *
      have hqd : (x : Int) / 2 ^ a = ((x / 2 ^ a : Nat) : Int) := by rw [ipow, Int.natCast_ediv]
      have hq64 : x / 2 ^ a < 18446744073709551616 := Nat.lt_of_le_of_lt (Nat.div_le_self _ _) hx64
      have hnf := not_fact (x / 2 ^ a) hq64
      rw [← hqd] at hnf
      replace hnf : bits BinOp.xor IntKind.u64 (if IntKind.u64.signed = true then -1 else IntKind.u64.max) ((x : Int) / 2 ^ a) = _ := hnf
      have hy64 : 2 ^ 64 - 1 - x / 2 ^ a < 18446744073709551616 := Nat.lt_of_le_of_lt (Nat.sub_le _ _) (by decide)
      generalize 2 ^ 64 - 1 - x / 2 ^ a = y at *
      have hcn := tz_any y hy64
      have n1 := l3 cb
      have n2 := l5 cb
      generalize Lib.ctz 64 y = k at *
      obtain ⟨x2, x2e, x2l, x2b⟩ := cut_fact x a k hx64 n2
      have hkI : I64 (k : Int) := by unfold I64; omega
      have hco := Lib.hid (fun W' => ones_any (k : Int) W' hkI)
      have hap : p ≤ a := by
        rcases Nat.lt_or_ge a p with h | h
        · have := hxb a
          rw [cb] at this
          simp [Nat.not_le.2 h] at this
        · exact h
      have hmb : ∀ i, p ≤ i → m.testBit i = x.testBit i := fun i hi => by rw [hxb i]; simp [hi]
      have hR2 : RunsTo (fun i => m.testBit i) (a + k) (runNs pre ++ [(a, k)]) := runsTo_step hR hap
        (fun i h1 h2 => by rw [hmb i h1]; exact cc i h2) n1
        (fun i h1 h2 => by
          rw [hmb i (by omega)]
          have := l1 (i - a) (by omega)
          rw [show a + (i - a) = i by omega] at this
          exact this)
        (by rw [hmb (a + k) (by omega)]; exact l2)
      have hx2m : ∀ i, x2.testBit i = (decide (a + k ≤ i) && m.testBit i) := fun i => by
        rw [x2b i, hxb i]
        by_cases hia : i < a
        · have e1 : ¬ a + k ≤ i := by omega
          have e2 := cc i hia
          rw [hxb i] at e2
          simp [e1, e2]
        · by_cases hik : i < a + k
          · have e1 : ¬ a + k ≤ i := by omega
            have e2 : a ≤ i := by omega
            simp [e1, e2, hik]
          · have e1 : a + k ≤ i := by omega
            have e2 : p ≤ i := by omega
            simp [e1, e2, hik]
      have hlx : x2 < x := by
        have hne : x2 ≠ x := fun e => by
          have := hx2m a
          rw [e, cb] at this
          have e1 : ¬ a + k ≤ a := by omega
          simp [e1] at this
        have hle : x2 ≤ x := by
          have : x2 = x2 &&& x := by
            apply Nat.eq_of_testBit_eq
            intro i
            rw [Nat.testBit_and, x2b i]
            cases x.testBit i <;> simp
          rw [this]
          exact Nat.and_le_right
        omega
      have hr : ∃ r : RunX, r.1 = (a, k) := ⟨⟨(a, k), by dsimp only; omega, by dsimp only; omega⟩, rfl⟩
      obtain ⟨r, hr⟩ := hr
      have henc : runEnc r = #[.int .i64 a, .int .i64 k] := by unfold runEnc; rw [hr]
      have hns : runNs (pre ++ [r]) = runNs pre ++ [(a, k)] := by unfold runNs; rw [List.map_append, ← hr]; rfl
      rw [← hns] at hR2
      have hlp : pre.length < 65 := by omega
      replace hxb := Lib.hid hxb
      replace hR := Lib.hid hR
      replace hR2 := Lib.hid hR2
      replace hx2m := Lib.hid hx2m
      replace hca := Lib.hid hca
      replace hcn := Lib.hid hcn
      clear cb cc l1 l2 l3 l5 hmb x2b hqd hns hr h0 hxb hR
      gi_wp2_with (first
        | (gi_at_call 30; refine (callsIn_wide.2 (hca.out _ hTs)).mono ?_; clear hca; rintro e wT ⟨rfl, rfl⟩)
        | (gi_at_call 30; (try simp only [hnf]); refine (callsIn_wide.2 (hcn.out _ hTs)).mono ?_; clear hcn; rintro e wT ⟨rfl, rfl⟩)
        | (gi_at_call 28; refine (callsIn_wide.2 (hco.out _)).mono ?_; rintro e wO ⟨rfl, hbO⟩; have hJO := hJ _ _ _ _ hJs (grown_of hbO) (fun r e => by cases e); have hTO := hTs.below hbO (by omega); have hsO := Nat.le_trans hsr hbO.size; obtain ⟨fn, tmps, assign, body, hy, hR⟩ := hY _ r wO hJO hlp; rw [henc] at hy))
      refine hR.mono ?_
      rintro e W3 (⟨rfl, hJ3, hk3⟩ | ⟨rfl, hJx3⟩)
      · gi_wp2
        go_roundw
        case rel => exact ⟨a + k, x2, pre ++ [r], rfl, x2l, hx2m.out, n2, hR2.out, by simp; omega, hJ3, hTO.below hk3 hg, Nat.le_trans hsO hk3.size⟩
        case measure => simp [intOf]; omega
      · gi_wp2
        refine bodyPost_ret (results_none rfl _ _ _) rfl ?_
        exact ⟨⟨_, rfl⟩, .inr ⟨_, trivial, hJx3⟩⟩
end Go.Proofs.YtjojflodhghdbaaDoor
