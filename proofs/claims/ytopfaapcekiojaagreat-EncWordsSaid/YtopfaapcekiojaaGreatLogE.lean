/- Logical immediates: Decode, and Value of a field. -/
import Derived.Test.YtopfaapcekiojaaGreatLogD
import Derived.Test.YtopfaapcekiojaaGreatLogR0
namespace Go.Proofs.YtopfaapcekiojaaGreat
open Go.RowKit Go.Sort
attribute [local go_sem] cell_gr frozen_gr
set_option linter.unusedVariables false

def widB (w : Int) : Bool := decide (w = 32) || decide (w = 64)
theorem wid_not {w : Int} (h : ¬ (w = 32 ∨ w = 64)) : widB w = false := by
  rw [Bool.eq_false_iff]; intro h'; exact h (by simpa [widB] using h')
theorem width_any (w : Int) (W : World) : Calls Tryz.prog 147 #[.int .i64 w] W (Ret (.bool (widB w)) W) := by
  by_cases h1 : w = 32
  · subst h1
    go_enter Tryz.func147, Tryz.ntmps147
    go_wp2
    go_ret
    exact ⟨rfl, Below.refl _ _⟩
  · have e : widB w = decide (w = 64) := by unfold widB; rw [decide_eq_false h1]; rfl
    rw [e]
    have e2 : (w == 32) = false := beq_false_of_ne h1
    go_enter Tryz.func147, Tryz.ntmps147
    go_wp2
    go_ret
    exact ⟨by simp; rfl, Below.refl _ _⟩
/-- are parts of a pattern of the width? -/
def okD (n r m w : Int) : Bool := decide (0 ≤ n) && decide (n ≤ 1) && decide (0 ≤ m) && decide (m ≤ 63) && mayB (szI n m) (m - topI (szI n m) + 1) r w
/-- the value of parts, and its error -/
def decE (n r m w : Int) : Int := if widB w then if okD n r m w then 0 else 20 else 1
def decI (n r m w : Int) : Int := if decE n r m w = 0 then ((valN (szI n m).toNat (m - topI (szI n m) + 1).toNat r.toNat w.toNat : Nat) : Int) else 0
theorem szI_sz (n m w o r : Int) (hm : 0 ≤ m) (h : mayB (szI n m) o r w = true) : Sz (szI n m).toNat := by
  obtain ⟨h1, _⟩ := (mayB_iff _ _ _ _).1 h
  unfold szI at *
  unfold Sz
  (repeat' split) <;> simp_all
theorem pat_of {s o t w : Int} (hs : Sz s.toNat) (h : mayB s o t w = true) : Pat s.toNat o.toNat t.toNat w.toNat := by
  obtain ⟨h1, h2, h3, h4, h5, h6⟩ := (mayB_iff _ _ _ _).1 h
  exact ⟨hs, by omega, by omega, by omega, by omega⟩
theorem int_of {s : Int} (h : 0 ≤ s) : ((s.toNat : Nat) : Int) = s := Int.toNat_of_nonneg h
theorem decode_any (n r m w : Int) (hn : I64 n) (hr : I64 r) (hm : I64 m) (hw : I64 w) (W : World) :
    Calls Tryz.prog 148 #[.int .i64 n, .int .i64 r, .int .i64 m, .int .i64 w] W (Ret (.tuple #[.int .u64 (decI n r m w), .int .i64 (decE n r m w)]) W) := by
  by_cases h1 : w = 32 ∨ w = 64
  · have e1 : widB w = true := by simpa [widB] using h1
    have hw2 : w.toNat = 32 ∨ w.toNat = 64 := by omega
    by_cases h2 : 0 ≤ n ∧ n ≤ 1 ∧ 0 ≤ m ∧ m ≤ 63
    · by_cases h3 : mayB (szI n m) (m - topI (szI n m) + 1) r w = true
      · obtain ⟨b1, b2, b3, b4, b5, b6⟩ := (mayB_iff _ _ _ _).1 h3
        have e2 : decE n r m w = 0 := by simp [decE, okD, e1, h2, h3]
        have e3 : decI n r m w = _ := if_pos e2
        have hP := pat_of (szI_sz n m w _ r h2.2.2.1 h3) h3
        have hv := lvalue_any _ _ _ _ hP hw2
        rw [int_of (by omega), int_of (by omega), int_of (by omega), int_of (by omega), ← e3] at hv
        have ho : ofV n r m = .agg #[.int .i64 (szI n m), .int .i64 (m - topI (szI n m) + 1), .int .i64 r] := ofV_of _ _ _ _ rfl (by omega)
        rw [e2]
        generalize decI n r m w = d at *
        generalize szI n m = s at *
        generalize m - topI s + 1 = o at *
        obtain ⟨c1, c2, c3, c4⟩ := h2
        clear e2 e3 b1 b2 b3 b4 b5 b6 hP h1 hw2
        have hv := Lib.hid hv
        go_enter Tryz.func148, Tryz.ntmps148
        go_wp2_with (first
          | (go_at_call 147; refine (width_any _ _).mono ?_; rintro e wA ⟨rfl, hbA⟩; rw [e1])
          | (go_at_call 166; refine (of_any _ _ _ _ (by omega) c3 c4 hr).mono ?_; rintro e wB ⟨rfl, hbB⟩; rw [ho]; have hB := bthen hbA hbB hbA.size)
          | (go_at_call 167; refine (may_any _ _ _ _ _).mono ?_; rintro e wC ⟨rfl, hbC⟩; rw [h3]; have hcC := (bcell hbC).1; have hzC : wB.heap.size < wC.heap.size := blt hbC (by simp); have hB2 := bthen hB (bone hbC) hB.size)
          | (go_at_call 168; refine (hv.out _).mono ?_; rintro e wD ⟨rfl, hbD⟩; have hB3 := bthen hB2 hbD hB2.size))
        go_returns
        exact ⟨rfl, hB3⟩
      · have e2 : decE n r m w = 20 := by simp [decE, okD, e1, h3]
        have e3 : decI n r m w = 0 := if_neg (by omega)
        rw [e2, e3]
        have hov : ofV n r m = .agg #[.int .i64 (szI n m), .int .i64 (if szI n m = 0 then 0 else m - topI (szI n m) + 1), .int .i64 (if szI n m = 0 then 0 else r)] := rfl
        have hmay : mayB (szI n m) (if szI n m = 0 then 0 else m - topI (szI n m) + 1) (if szI n m = 0 then 0 else r) w = false := by
          by_cases hs : szI n m = 0
          · rw [hs]; rfl
          · rw [if_neg hs, if_neg hs]; simpa using h3
        clear e2 e3 h3
        generalize (if szI n m = 0 then 0 else m - topI (szI n m) + 1) = o at *
        generalize (if szI n m = 0 then 0 else r) = t at *
        generalize szI n m = s at *
        obtain ⟨c1, c2, c3, c4⟩ := h2
        clear h1 hw2
        go_enter Tryz.func148, Tryz.ntmps148
        go_wp2_with (first
          | (go_at_call 147; refine (width_any _ _).mono ?_; rintro e wA ⟨rfl, hbA⟩; rw [e1])
          | (go_at_call 166; refine (of_any _ _ _ _ (by omega) c3 c4 hr).mono ?_; rintro e wB ⟨rfl, hbB⟩; rw [hov]; have hB := bthen hbA hbB hbA.size)
          | (go_at_call 167; refine (may_any _ _ _ _ _).mono ?_; rintro e wC ⟨rfl, hbC⟩; rw [hmay]; have hB2 := bthen hB (bone hbC) hB.size))
        go_returns
        exact ⟨rfl, hB2⟩
    · have e2 : decE n r m w = 20 := by
        have : okD n r m w = false := by
          rw [Bool.eq_false_iff]; intro h; apply h2
          simp [okD] at h; exact ⟨by omega, by omega, by omega, by omega⟩
        simp [decE, this, e1]
      have e3 : decI n r m w = 0 := if_neg (by omega)
      rw [e2, e3]
      clear e2 e3 h1 hw2
      go_enter Tryz.func148, Tryz.ntmps148
      go_wp2_with (first
          | (go_at_call 147; refine (width_any _ _).mono ?_; rintro e wA ⟨rfl, hbA⟩; rw [e1])
          | (go_at_call 166; exfalso; omega))
      all_goals (go_returns; exact ⟨rfl, hbA⟩)
  · have e1 := wid_not h1
    have e2 : decE n r m w = 1 := by simp [decE, e1]
    have e3 : decI n r m w = 0 := if_neg (by omega)
    rw [e2, e3]
    clear e2 e3 h1
    go_enter Tryz.func148, Tryz.ntmps148
    go_wp2_with (first
          | (go_at_call 147; refine (width_any _ _).mono ?_; rintro e wA ⟨rfl, hbA⟩; rw [e1]))
    go_returns
    exact ⟨rfl, hbA⟩
theorem i64_and63 (n : Int) : bits .and .i64 n 63 = n % 64 := by
  have h63 : (BitVec.ofInt 64 63).toNat = 2 ^ 6 - 1 := by decide
  have key : (BitVec.ofInt 64 n &&& BitVec.ofInt 64 63).toNat = (n % ((2 ^ 64 : Nat) : Int)).toNat % 2 ^ 6 := by
    rw [BitVec.toNat_and, BitVec.toNat_ofInt, h63, Nat.and_two_pow_sub_one_eq_mod]
  show IntKind.i64.wrap ((BitVec.ofInt 64 n &&& BitVec.ofInt 64 63).toNat : Nat) = n % 64
  rw [key, IntKind.wrap_i64]
  omega
/-- the value of a field, and its error -/
def fldE (f w : Int) : Int := if widB w then if 0 ≤ f ∧ f < 8192 then decE (f / 4096) (f / 64 % 64) (f % 64) w else 20 else 1
def fldI (f w : Int) : Int := if widB w then if 0 ≤ f ∧ f < 8192 then decI (f / 4096) (f / 64 % 64) (f % 64) w else 0 else 0
theorem value_any (f w : Int) (hf : I64 f) (hw : I64 w) (W : World) :
    Calls Tryz.prog 132 #[.int .i64 f, .int .i64 w] W (Ret (.tuple #[.int .u64 (fldI f w), .int .i64 (fldE f w)]) W) := by
  by_cases h1 : w = 32 ∨ w = 64
  · have e1 : widB w = true := by simpa [widB] using h1
    by_cases h2 : 0 ≤ f ∧ f < 8192
    · have e2 : fldE f w = decE (f / 4096) (f / 64 % 64) (f % 64) w := by simp [fldE, e1, h2]
      have e3 : fldI f w = decI (f / 4096) (f / 64 % 64) (f % 64) w := by simp [fldI, e1, h2]
      rw [e2, e3]
      obtain ⟨c1, c2⟩ := h2
      clear e2 e3 h1
      have q1 : I64 (f / 4096) := by unfold I64; omega
      have q2 : I64 (f / 64 % 64) := by unfold I64; omega
      have q3 : I64 (f % 64) := by unfold I64; omega
      go_enter Tryz.func132, Tryz.ntmps132
      go_wp2_with (first
          | (go_at_call 147; refine (width_any _ _).mono ?_; rintro e wA ⟨rfl, hbA⟩; rw [e1])
          | (go_at_call 148; rw [i64_and63, i64_and63]; refine (decode_any _ _ _ _ q1 q2 q3 hw _).mono ?_; rintro e wB ⟨rfl, hbB⟩; have hB := bthen hbA hbB hbA.size))
      go_returns
      exact ⟨rfl, hB⟩
    · have e2 : fldE f w = 20 := by unfold fldE; rw [if_pos e1, if_neg h2]
      have e3 : fldI f w = 0 := by unfold fldI; rw [if_pos e1, if_neg h2]
      rw [e2, e3]
      clear e2 e3 h1
      go_enter Tryz.func132, Tryz.ntmps132
      go_wp2_with (first
          | (go_at_call 147; refine (width_any _ _).mono ?_; rintro e wA ⟨rfl, hbA⟩; rw [e1])
          | (go_at_call 148; exfalso; omega))
      all_goals (go_returns; exact ⟨rfl, hbA⟩)
  · have e1 := wid_not h1
    have e2 : fldE f w = 1 := by simp [fldE, e1]
    have e3 : fldI f w = 0 := by simp [fldI, e1]
    rw [e2, e3]
    clear e2 e3 h1
    go_enter Tryz.func132, Tryz.ntmps132
    go_wp2_with (first
          | (go_at_call 147; refine (width_any _ _).mono ?_; rintro e wA ⟨rfl, hbA⟩; rw [e1]))
    go_returns
    exact ⟨rfl, hbA⟩
end Go.Proofs.YtopfaapcekiojaaGreat
