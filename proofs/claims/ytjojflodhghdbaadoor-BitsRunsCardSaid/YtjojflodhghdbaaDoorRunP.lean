/- The plain law of BitsSigns (no program in sight): the runs' lengths add up to the ones; a number out of bits fits and gives the bits back. And what a row of runs holds. -/
import Derived.Test.YtjojflodhghdbaaDoorRunL
import Derived.Test.YtjojflodhghdbaaDoorPopW
import Derived.Test.YtjojflodhghdbaaDoorRefW0
namespace Go.Proofs.YtjojflodhghdbaaDoor
open Go.RowKit Go.Sort Go.Shelf Go.Joins
set_option linter.unusedVariables false

def cntB (b : Nat → Bool) : Nat → Nat
  | 0 => 0
  | k + 1 => cntB b k + if b k then 1 else 0
theorem sumR_nil : sumR [] = 0 := rfl
theorem sumR_snoc (l : List (Nat × Nat)) (p : Nat × Nat) : sumR (l ++ [p]) = sumR l + p.2 := by simp [sumR]
theorem sumR_ext (l : List (Nat × Nat)) (i : Nat) : sumR (extR l i) = sumR l + 1 := by
  rcases List.eq_nil_or_concat l with rfl | ⟨l', p, rfl⟩
  · rfl
  · unfold extR
    rw [List.concat_eq_append, List.getLast?_concat]
    dsimp only
    split
    · rw [List.dropLast_concat, sumR_snoc, sumR_snoc]; dsimp only; omega
    · rw [sumR_snoc]
theorem sumR_ref (b : Nat → Bool) : ∀ k, sumR (refR b k) = cntB b k
  | 0 => rfl
  | k + 1 => by
    rw [refR, cntB]
    split
    · rw [sumR_ext, sumR_ref b k]
    · rw [sumR_ref b k]; rfl
theorem extR_len (l : List (Nat × Nat)) (i : Nat) : (extR l i).length ≤ l.length + 1 := by
  unfold extR
  split
  · split
    · simp
    · simp
  · simp
theorem refR_len (b : Nat → Bool) : ∀ k, (refR b k).length ≤ k
  | 0 => Nat.le_refl _
  | k + 1 => by
    have h := refR_len b k
    have h2 := extR_len (refR b k) k
    rw [refR]
    split <;> omega
theorem cntB_le (b : Nat → Bool) : ∀ k, cntB b k ≤ k
  | 0 => Nat.le_refl _
  | k + 1 => by
    have := cntB_le b k
    rw [cntB]
    split <;> omega
theorem pc_snoc : ∀ (k x : Nat), Pop.pc (k + 1) x = Pop.pc k x + if x.testBit k then 1 else 0
  | 0, x => by
    simp only [Pop.pc, Nat.testBit_zero]
    by_cases h : x % 2 = 1
    · simp [h]
    · simp [h]; omega
  | k + 1, x => by
    have h := pc_snoc k (x / 2)
    rw [Pop.pc, h, Pop.pc, Nat.testBit_succ, Nat.add_assoc]
theorem pc_cnt (x : Nat) : ∀ k, Pop.pc k x = cntB (fun i => x.testBit i) k
  | 0 => rfl
  | k + 1 => by rw [pc_snoc, pc_cnt x k, cntB]
theorem runB_low (v n : Int) (hv : U64 v) (h1 : 1 ≤ n) (h2 : n ≤ 64) : ((runB v n : Nat) : Int) = lowI v n ∧ (lowI v n).toNat = runB v n ∧ U64 (lowI v n) := by
  have e : lowI v n = ((runB v n : Nat) : Int) := by
    unfold lowI runB
    by_cases h : 64 ≤ n
    · rw [if_pos h, ones_hi n h]
      have : v.toNat &&& (18446744073709551615 : Int).toNat = v.toNat := by
        show v.toNat &&& (2 ^ 64 - 1) = v.toNat
        rw [Nat.and_two_pow_sub_one_eq_mod]
        exact Nat.mod_eq_of_lt (by unfold U64 at hv; omega)
      rw [this]
      unfold U64 at hv; omega
    · rw [if_neg h, onesI_nat n (by omega), Int.toNat_natCast, Nat.and_two_pow_sub_one_eq_mod]
  refine ⟨e.symm, by rw [e]; exact Int.toNat_natCast _, ?_⟩
  rw [e]
  have : runB v n ≤ v.toNat := Nat.and_le_left
  unfold U64 at *; omega
theorem runs_sum (v n : Int) (hv : U64 v) (h1 : 1 ≤ n) (h2 : n ≤ 64) : ((sumR (refR (fun i => (runB v n).testBit i) 64) : Nat) : Int) = pcI (lowI v n) := by
  unfold pcI
  rw [sumR_ref, (runB_low v n hv h1 h2).2.1, pc_cnt]
theorem sign_fits (v n : Int) (h : wideB n = true) : fitsB (signI v n) n true = true := by
  obtain ⟨h1, h2⟩ := (wideB_iff n).1 h
  rw [fits_s ⟨h1, h2⟩]
  have e : signI v n = signN v.toNat n.toNat := by unfold signI; rw [if_pos h]
  obtain ⟨a, b⟩ := signN_bd v.toNat n.toNat (by omega) (by omega)
  rw [e, ipow]
  exact decide_eq_true ⟨a, b⟩
theorem sign_bd (v n : Int) : I64 (signI v n) := by
  unfold signI
  split
  · rename_i h
    obtain ⟨h1, h2⟩ := (wideB_iff n).1 h
    obtain ⟨a, b⟩ := signN_bd v.toNat n.toNat (by omega) (by omega)
    have : 2 ^ (n.toNat - 1) ≤ 2 ^ 63 := npow_le (by omega)
    unfold I64; omega
  · unfold I64; omega
theorem sign_low (v n : Int) (hv : U64 v) (h : wideB n = true) : lowI (IntKind.u64.wrap (signI v n)) n = lowI v n := by
  obtain ⟨h1, h2⟩ := (wideB_iff n).1 h
  have e : signI v n = signN v.toNat n.toNat := by unfold signI; rw [if_pos h]
  rw [IntKind.wrap_u64, e]
  have hlt : v.toNat % 2 ^ n.toNat < 2 ^ n.toNat := Nat.mod_lt _ (Nat.two_pow_pos _)
  obtain ⟨v', rfl⟩ : ∃ v' : Nat, v = (v' : Int) := ⟨v.toNat, by unfold U64 at hv; omega⟩
  rw [Int.toNat_natCast] at *
  unfold U64 at hv
  unfold signN lowI
  by_cases h64 : 64 ≤ n
  · obtain rfl : n = 64 := by omega
    rw [if_pos (show (64 : Int) ≤ 64 by omega), if_pos (show (64 : Int) ≤ 64 by omega)]
    have e64 : (64 : Int).toNat = 64 := rfl
    rw [e64]
    have hm : v' % 2 ^ 64 = v' := Nat.mod_eq_of_lt (by omega)
    rw [hm]
    have e2 : (((2 ^ 64 : Nat)) : Int) = 18446744073709551616 := rfl
    rw [e2]
    split <;> omega
  · rw [if_neg h64, if_neg h64]
    have hd : 2 ^ 64 = 2 ^ n.toNat * 2 ^ (64 - n.toNat) := by rw [← Nat.pow_add, show n.toNat + (64 - n.toNat) = 64 by omega]
    have hle : 2 ^ n.toNat ≤ 2 ^ 63 := npow_le (by omega)
    have hp := Nat.two_pow_pos n.toNat
    generalize hP : 2 ^ n.toNat = p at *
    generalize hM : v' % p = m at *
    by_cases hs : 2 ^ (n.toNat - 1) ≤ m
    · rw [if_pos hs]
      have e3 : ((m : Int) - (p : Int)) % 18446744073709551616 = ((2 ^ 64 - p + m : Nat) : Int) := by omega
      rw [e3, Int.toNat_natCast]
      have e4 : (2 ^ 64 - p + m) % p = m := by
        generalize 2 ^ (64 - n.toNat) = q at *
        have hq : 1 ≤ q := by
          rcases Nat.eq_zero_or_pos q with h | h
          · rw [h, Nat.mul_zero] at hd; omega
          · exact h
        have : 2 ^ 64 - p = p * (q - 1) := by rw [hd, Nat.mul_sub, Nat.mul_one]
        rw [this, Nat.mul_add_mod]
        exact Nat.mod_eq_of_lt hlt
      rw [e4, Int.toNat_natCast, hM]
    · rw [if_neg hs]
      have e3 : (m : Int) % 18446744073709551616 = (m : Int) := by omega
      rw [e3, Int.toNat_natCast, Nat.mod_eq_of_lt hlt, Int.toNat_natCast, hM]
theorem runVs_get : ∀ (l : List (Nat × Nat)) (i : Nat) (p : Nat × Nat), l[i]? = some p → (runVs l)[2 * i]? = some (.int .i64 p.1) ∧ (runVs l)[2 * i + 1]? = some (.int .i64 p.2)
  | [], i, p, h => by simp at h
  | q :: l, 0, p, h => by
    simp at h
    subst h
    exact ⟨rfl, rfl⟩
  | q :: l, i + 1, p, h => by
    have := runVs_get l i p (by simpa using h)
    have e : runVs (q :: l) = .int .i64 q.1 :: .int .i64 q.2 :: runVs l := rfl
    rw [e, show 2 * (i + 1) = 2 * i + 1 + 1 by omega, show 2 * i + 1 + 1 + 1 = (2 * i + 1) + 1 + 1 by omega]
    simpa using this
theorem RunRow.below {W W' : World} {base : Nat} {v : Value} {l : List (Nat × Nat)} (h : RunRow W base v l) (hb : Below W.heap.size W W') : RunRow W' base v l :=
  World.ownsRow.kept h (grown_of hb) (by
    rcases h.2 with ⟨rfl, _⟩ | ⟨g, cap, cur, rfl, _⟩
    · exact .inl rfl
    · exact .inr (by simp [Value.ownBlock]))
theorem RunRow.cells {W : World} {base : Nat} {v : Value} {l : List (Nat × Nat)} (h : RunRow W base v l) (hl : 0 < l.length) :
    ∃ g cap, v = .slice (some ⟨g, 0, none⟩) l.length cap ∧ ∀ (i : Nat) (p : Nat × Nat), l[i]? = some p → W.cell? ⟨g, 2 * i, none⟩ = some (.int .i64 p.1) ∧ W.cell? ⟨g, 2 * i + 1, none⟩ = some (.int .i64 p.2) := by
  rcases h.2 with ⟨_, h0⟩ | ⟨g, cap, cur, rfl, _, hg, _, _, hsz, htk⟩
  · omega
  · refine ⟨g, cap, rfl, fun i p hp => ?_⟩
    obtain ⟨a, b⟩ := runVs_get l i p hp
    have hi : i < l.length := (List.getElem?_eq_some_iff.1 hp).1
    have key : ∀ j u, (runVs l)[j]? = some u → j < l.length * 2 → W.cell? ⟨g, j, none⟩ = some u := fun j u hu hj => by
      rw [← htk, List.getElem?_take, if_pos hj] at hu
      simp only [World.cell?, hg]
      simpa using hu
    exact ⟨key _ _ a (by omega), key _ _ b (by omega)⟩
theorem RunRow.len {W : World} {base : Nat} {v : Value} {l : List (Nat × Nat)} (h : RunRow W base v l) : ∀ W', Sem.run Tryd.prog (Builtin.len_ #[27] 3 #[v]) W' = .ok (.int .i64 l.length) W' := fun W' => by
  rcases h.2 with ⟨rfl, h0⟩ | ⟨g, cap, cur, rfl, _⟩
  · rw [h0]; kernel_rfl
  · kernel_rfl
end Go.Proofs.YtjojflodhghdbaaDoor
