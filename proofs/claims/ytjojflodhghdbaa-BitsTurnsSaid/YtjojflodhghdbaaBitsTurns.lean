/- PROVED: BitsTurns returns true for every number, width and turn; each argument reads behind the call as it read before. No condition. -/
import Derived.Test.YtjojflodhghdbaaLaw01L
import Derived.Test.YtjojflodhghdbaaPopW
import Derived.ProofKit
import Derived.OpenShut
import Derived.Lib.SmallJoins
namespace Go.Proofs.Ytjojflodhghdbaa.lawBitsTurns
open Go.ChangeShapes Go.WideShapes Go.ChangeAt Go.RowKit Go.Sort Go.Joins
attribute [local go_sem] cell_gr frozen_gr
set_option linter.unusedVariables false

theorem pc_zero : ∀ k, Pop.pc k 0 = 0
  | 0 => rfl
  | k + 1 => by simp [Pop.pc, pc_zero k]
theorem pc_add : ∀ (m j a b : Nat), a < 2 ^ m → Pop.pc (m + j) (a + 2 ^ m * b) = Pop.pc m a + Pop.pc j b
  | 0, j, a, b, h => by
    have : a = 0 := by simpa using h
    subst this; simp [Pop.pc]
  | m + 1, j, a, b, h => by
    have e : m + 1 + j = (m + j) + 1 := by omega
    rw [e]
    simp only [Pop.pc]
    rw [Nat.pow_succ] at h
    have e1 : (a + 2 ^ (m + 1) * b) % 2 = a % 2 := by rw [Nat.pow_succ, Nat.mul_assoc, Nat.mul_left_comm]; omega
    have e2 : (a + 2 ^ (m + 1) * b) / 2 = a / 2 + 2 ^ m * b := by rw [Nat.pow_succ, Nat.mul_assoc, Nat.mul_left_comm]; omega
    rw [e1, e2, pc_add m j (a / 2) b (by omega)]
    omega
theorem pc_ext (m j a : Nat) (h : a < 2 ^ m) : Pop.pc (m + j) a = Pop.pc m a := by
  have := pc_add m j a 0 h
  rw [pc_zero] at this
  simpa using this
theorem turn_pc (v n k : Nat) (hv : v < 2 ^ n) (hk : k ≤ n) (hn : n ≤ 64) : Pop.pc 64 (turnN v n k) = Pop.pc 64 v := by
  have e64 : 64 = n + (64 - n) := by omega
  have hlt := turnN_lt v n k hv hk
  have hd : v / 2 ^ k < 2 ^ (n - k) := by
    rw [Nat.div_lt_iff_lt_mul (Nat.two_pow_pos _), ← Nat.pow_add, show n - k + k = n by omega]; exact hv
  have hm : v % 2 ^ k < 2 ^ k := Nat.mod_lt _ (Nat.two_pow_pos _)
  rw [e64, pc_ext n _ _ hlt, pc_ext n _ _ hv]
  have e1 : turnN v n k = v / 2 ^ k + 2 ^ (n - k) * (v % 2 ^ k) := by unfold turnN; rw [Nat.mul_comm]
  have e2 : v = v % 2 ^ k + 2 ^ k * (v / 2 ^ k) := (Nat.mod_add_div v (2 ^ k)).symm
  have a1 := pc_add (n - k) k (v / 2 ^ k) (v % 2 ^ k) hd
  have a2 := pc_add k (n - k) (v % 2 ^ k) (v / 2 ^ k) hm
  rw [show n - k + k = n by omega, ← e1] at a1
  rw [show k + (n - k) = n by omega, ← e2] at a2
  omega
theorem turn_zero (v n : Nat) : turnN v n 0 = v := by unfold turnN; simp [Nat.mod_one]
theorem turn_back (v n k : Nat) (hv : v < 2 ^ n) (hk : k ≤ n) : turnN (turnN v n k) n (n - k) = v := by
  have hd : v / 2 ^ k < 2 ^ (n - k) := by
    rw [Nat.div_lt_iff_lt_mul (Nat.two_pow_pos _), ← Nat.pow_add, show n - k + k = n by omega]; exact hv
  have e1 : turnN v n k = v / 2 ^ k + 2 ^ (n - k) * (v % 2 ^ k) := by unfold turnN; rw [Nat.mul_comm]
  rw [e1]
  unfold turnN
  rw [Nat.add_mul_div_left _ _ (Nat.two_pow_pos _), Nat.div_eq_of_lt hd, Nat.add_mul_mod_self_left, Nat.mod_eq_of_lt hd, show n - (n - k) = k by omega, Nat.zero_add, Nat.mul_comm]
  exact Nat.mod_add_div v (2 ^ k)

theorem turnI_of {v n b : Int} (hB : wideB n = true) (h' : turnOk v n = true) : turnI v n b = ((turnN v.toNat n.toNat (b % n).toNat : Nat) : Int) := by unfold turnI; rw [if_pos (by rw [hB, h']; rfl)]
theorem facts (v n b : Int) (hv : U64 v) (h1 : 1 ≤ n) (h2 : n ≤ 64) (h' : turnOk v n = true) :
    turnE v n = 0 ∧ turnE (turnI v n b) n = 0 ∧ turnI (turnI v n b) n (n - b.tmod n) = v ∧ turnI v n n = v ∧ pcI (turnI v n b) = pcI v ∧ U64 (turnI v n b) := by
  obtain ⟨v1, v2⟩ := hv
  have hB := (wideB_iff n).2 ⟨h1, h2⟩
  have hv2 : v.toNat < 2 ^ n.toNat := by simpa [turnOk] using h'
  obtain ⟨t1, t2, t3, t4⟩ := tmod_emod b n (by omega)
  have m1 := Int.emod_nonneg b (by omega : n ≠ 0)
  have m2 := Int.emod_lt_of_pos b (by omega : 0 < n)
  have e : turnI v n b = ((turnN v.toNat n.toNat (b % n).toNat : Nat) : Int) := turnI_of hB h'
  have hlt := turnN_lt v.toNat n.toNat (b % n).toNat hv2 (by omega)
  have hle : 2 ^ n.toNat ≤ 2 ^ 64 := npow_le (by omega)
  have hk2 : turnOk (turnI v n b) n = true := by unfold turnOk; rw [e]; simpa using hlt
  refine ⟨by unfold turnE; rw [if_pos hB, if_pos h'], by unfold turnE; rw [if_pos hB, if_pos hk2], ?_, ?_, ?_, ?_⟩
  · have e2 : turnI (turnI v n b) n (n - b.tmod n) = ((turnN (turnI v n b).toNat n.toNat ((n - b.tmod n) % n).toNat : Nat) : Int) := turnI_of hB hk2
    rw [e2, e, Int.toNat_natCast]
    have ek : (b % n = 0 ∧ (n - b.tmod n) % n = 0) ∨ (n - b.tmod n) % n = n - b % n := by
      by_cases hneg : b.tmod n < 0
      · right
        rw [t1 hneg]
        have e3 : n - b.tmod n = (n - (b.tmod n + n)) + n * 1 := by omega
        rw [e3, Int.add_mul_emod_self_left, Int.emod_eq_of_lt (by omega) (by omega)]
      · have t5 := t2 (by omega)
        rw [t5]
        by_cases h0 : b.tmod n = 0
        · left
          rw [h0]; simp
        · right
          rw [Int.emod_eq_of_lt (by omega) (by omega)]
    rcases ek with ⟨k0, k1⟩ | k1
    · rw [k0, k1]
      simp only [Int.toNat_zero, turn_zero]
      omega
    · have e4 : (n - b % n).toNat = n.toNat - (b % n).toNat := by omega
      rw [k1, e4, turn_back _ _ _ hv2 (by omega)]
      omega
  · rw [turnI_of hB h', Int.emod_self]
    simp only [Int.toNat_zero, turn_zero]
    omega
  · unfold pcI
    rw [e, Int.toNat_natCast, turn_pc _ _ _ hv2 (by omega) (by omega)]
  · rw [e]; exact ⟨by omega, by omega⟩

theorem walk (v n b : Int) (w : World) (hv : U64 v) (hn : I64 n) (hb : I64 b) : Calls Try.prog 7 #[.int .u64 v, .int .i64 n, .int .i64 b] w (Ret (.bool true) w) := by
  by_cases hE : turnE v n = 0
  · have h : 1 ≤ n ∧ n ≤ 64 ∧ turnOk v n = true := by
      unfold turnE at hE
      split at hE
      · rename_i hB
        split at hE
        · rename_i h'; exact ⟨((wideB_iff n).1 hB).1, ((wideB_iff n).1 hB).2, h'⟩
        · cases hE
      · cases hE
    obtain ⟨h1, h2, h'⟩ := h
    obtain ⟨f1, f2, f3, f4, f5, f6⟩ := facts v n b hv h1 h2 h'
    obtain ⟨t1, t2, t3, t4⟩ := tmod_emod b n (by omega)
    have c1 := fun W => turn_any v n b W hv hn hb
    have c2 := fun W => turn_any (turnI v n b) n (n - b.tmod n) W f6 hn ⟨by omega, by omega⟩
    have c3 := fun W => turn_any v n n W hv hn hn
    have c4 := fun W => of_same (pop_same (turnI v n b) W f6)
    have c5 := fun W => of_same (pop_same v W hv)
    rw [f1] at c1 c3
    rw [f2, f3] at c2
    rw [f4] at c3
    rw [f5] at c4
    have hB : Below w.heap.size w w := Below.refl _ _
    generalize turnI v n b = X at *
    obtain ⟨b1, b2⟩ := hb
    clear f1 f2 f3 f4 f5 t1 t2 hE
    go_enter Try.func7, Try.ntmps7
    go_wp2_with (first
      | (go_at_call 14; refine (live_any _).mono ?_; rintro e w1 ⟨rfl, hb⟩; replace hB := bthen hB hb hB.size)
      | (go_at_call_of 21 (Value.int IntKind.i64 b); refine (c1 _).mono ?_; rintro e w1 ⟨rfl, hb⟩; replace hB := bthen hB hb hB.size)
      | (go_at_call_of 21 (Value.int IntKind.u64 X); refine (c2 _).mono ?_; rintro e w1 ⟨rfl, hb⟩; replace hB := bthen hB hb hB.size)
      | (go_at_call_of 21 (Value.int IntKind.u64 v); refine (c3 _).mono ?_; rintro e w1 ⟨rfl, hb⟩; replace hB := bthen hB hb hB.size)
      | (go_at_call_of 32 (Value.int IntKind.u64 X); refine (c4 _).mono ?_; rintro e w1 ⟨rfl, hb⟩; replace hB := bthen hB hb hB.size)
      | (go_at_call_of 32 (Value.int IntKind.u64 v); refine (c5 _).mono ?_; rintro e w1 ⟨rfl, hb⟩; replace hB := bthen hB hb hB.size))
    go_ret
    exact ⟨rfl, hB⟩
  · have hne : (turnE v n != 0) = true := by simpa using hE
    have c1 := fun W => turn_any v n b W hv hn hb
    have hB : Below w.heap.size w w := Below.refl _ _
    generalize turnE v n = E at *
    clear hE
    go_enter Try.func7, Try.ntmps7
    go_wp2_with (first
      | (go_at_call 14; refine (live_any _).mono ?_; rintro e w1 ⟨rfl, hb⟩; replace hB := bthen hB hb hB.size)
      | (go_at_call 21; refine (c1 _).mono ?_; rintro e w1 ⟨rfl, hb⟩; replace hB := bthen hB hb hB.size))
    go_ret
    exact ⟨rfl, hB⟩

theorem own : ownKnob Try.prog.godebug = none := by kernel_rfl
theorem laidOut : laidOutB Try.prog = true := by kernel_rfl
set_option maxRecDepth 100000 in
theorem lifted (os : Os) (started : os.Started) (H : Type) (enc : TypeId × Value → H) :
    ReturnsInHanded {} Try.checked os 7 .any (Rows.bitsTurnsSpec.pre6 enc Try.prog Try.f7 Rows.bitsTurnsRow.domain false) (Rows.bitsTurnsSpec.post enc Try.prog Try.f7 false true false false) := by
  refine returnsInHanded_of_change (C := Try.checked) own started (by kernel_rfl) Try.func7
    (ChangeSpec.witness6 (enc := enc) (C := Try.checked) false ⟨#[], #[.int .u64 0, .int .i64 0, .int .i64 0], []⟩ 8 (by kernel_rfl) (by kernel_rfl) (by kernel_rfl) (by kernel_rfl)) ?_
  intro W base args ds gs before hval0 hW hcnd _
  have hval : ∀ (j : Nat) t v, Try.f7.params[j]? = some t → args[j]? = some v → Value.okWide Try.prog W .any base t v := hval0
  have hW' := hW
  obtain ⟨p, q, hA0, hV, rfl, hfz, hnd⟩ := hW
  have hA : DataW.TrodAll enc Try.prog W 0 (fun _ => true) true Try.f7.params.toList args.toList ds p := hA0
  rw [Try.params7] at hA hval
  obtain ⟨v0, vs0, d0, ds0, p0, q0, hargs, rfl, rfl, h0, r0⟩ := trodAll_cons hA
  obtain ⟨v1, vs1, d1, ds1, p1, q1, rfl, rfl, rfl, h1, r1⟩ := trodAll_cons r0
  obtain ⟨v2, vs2, d2, ds2, p2, q2, rfl, rfl, rfl, h2, r2⟩ := trodAll_cons r1
  obtain ⟨rfl, rfl, rfl⟩ := trodAll_nil r2
  obtain rfl : args = #[v0, v1, v2] := by cases args; simp_all
  obtain ⟨rfl, rfl⟩ := trodVars_none hV
  have k0 := h0
  have k1 := h1
  have k2 := h2
  have lt0 : ∀ x ∈ p0, x.block < W.heap.size := by obtain ⟨m, hm⟩ := k0; exact DataW.trod_lt m _ _ _ hm
  have lt1 : ∀ x ∈ p1, x.block < W.heap.size := by obtain ⟨m, hm⟩ := k1; exact DataW.trod_lt m _ _ _ hm
  have lt2 : ∀ x ∈ p2, x.block < W.heap.size := by obtain ⟨m, hm⟩ := k2; exact DataW.trod_lt m _ _ _ hm
  obtain ⟨a0, rfl, _, _, w0⟩ := open_int Try.underlying31 (hval 0 31 v0 rfl rfl) h0
  obtain ⟨a1, rfl, _, _, w1⟩ := open_int Try.underlying3 (hval 1 3 v1 rfl rfl) h1
  obtain ⟨a2, rfl, _, _, w2⟩ := open_int Try.underlying3 (hval 2 3 v2 rfl rfl) h2
  clear hA0 hval0
  refine (walk a0 a1 a2 W (u64_wf w0) (i64_wf w1) (i64_wf w2)).mono fun e W' ⟨he, bel⟩ => ?_
  subst he
  exact ⟨_, rfl, _, _, _, [], _, [], hW', trodAll_mk1 (shut_bool Try.underlying4 _), (trodAll_cons_mk (Below.trod laidOut (by kernel_rfl) (of_decide_eq_true (by kernel_rfl)) k0 bel lt0) (trodAll_cons_mk (Below.trod laidOut (by kernel_rfl) (of_decide_eq_true (by kernel_rfl)) k1 bel lt1) (trodAll_cons_mk (Below.trod laidOut (by kernel_rfl) (of_decide_eq_true (by kernel_rfl)) k2 bel lt2) trodAll_mk0))), rfl, bel.frame _, fun h => by cases h⟩

theorem proved : Rows.BitsTurnsSaid :=
  OpenClaim.holds_of_wide 7 Try.f7 rfl rfl rfl rfl rfl rfl rfl ⟨rfl, rfl, rfl, rfl, rfl⟩ rfl rfl rfl rfl rfl (by kernel_rfl) Try.func7 (by kernel_rfl)
    (of_decide_eq_true (by kernel_rfl)) (by unfold Func.isWrapper; first | (rw [if_pos (by decide +kernel)]; kernel_rfl) | (rw [if_neg (by decide +kernel)]; exact ⟨rfl, rfl⟩))
    (fun os started H enc _ => lifted os started H enc)
#print axioms proved
end Go.Proofs.Ytjojflodhghdbaa.lawBitsTurns
