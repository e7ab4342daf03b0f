/- Logical immediates, the document's answer: Decode and Value. -/
import Derived.Test.YtopfaapcekiojaaGreatLogE
namespace Go.Proofs.YtopfaapcekiojaaGreat
open Go.RowKit Go.Sort
attribute [local go_sem] cell_gr frozen_gr
set_option linter.unusedVariables false

theorem bad_any (w : Int) (W : World) : Calls Tryz.prog 139 #[.int .i64 w] W (Ret (.bool (!widB w)) W) := by
  by_cases h1 : w = 32
  · subst h1
    go_enter Tryz.func139, Tryz.ntmps139
    go_wp2
    go_ret
    exact ⟨rfl, Below.refl _ _⟩
  · have e : widB w = decide (w = 64) := by unfold widB; rw [decide_eq_false h1]; rfl
    rw [e]
    have e2 : (w == 32) = false := beq_false_of_ne h1
    go_enter Tryz.func139, Tryz.ntmps139
    go_wp2
    go_ret
    exact ⟨by simp [e2, bne]; try rfl, Below.refl _ _⟩
/-- a size, or the one behind the last -/
def Sz1 (z : Int) : Prop := z = 2 ∨ z = 4 ∨ z = 8 ∨ z = 16 ∨ z = 32 ∨ z = 64
theorem top_any (z : Int) (hz : Sz1 z) (W : World) : Calls Tryz.prog 162 #[.int .i64 z] W (Ret (.int .i64 (topI z)) W) := by
  rcases hz with rfl | rfl | rfl | rfl | rfl | rfl
  all_goals
    rw [show topI _ = _ from rfl]
    go_enter Tryz.func162, Tryz.ntmps162
    go_wp2
    go_ret
    exact ⟨rfl, Below.refl _ _⟩
/-- the document's condition at a size -/
def refB (n r m z : Int) : Bool := okD n r m 64 && decide (szI n m = z)
theorem refB_iff (n r m z : Int) (hz : Sz1 z) (hm : I64 m) : refB n r m z = true ↔ (((n = 1 ∧ z = 64) ∨ (n ≠ 1 ∧ z ≠ 64)) ∧ (n = 0 ∨ n = 1) ∧ 1 ≤ wrap64 (wrap64 (m - topI z) + 1) ∧ wrap64 (wrap64 (m - topI z) + 1) < z ∧ 0 ≤ r ∧ r < z ∧ 0 ≤ m ∧ m < 64) := by
  unfold I64 at hm
  have e : refB n r m z = true ↔ (0 ≤ n ∧ n ≤ 1 ∧ 0 ≤ m ∧ m ≤ 63 ∧ szI n m = z ∧ 1 ≤ m - topI z + 1 ∧ m - topI z + 1 < z ∧ 0 ≤ r ∧ r < z) := by
    unfold refB okD
    simp only [Bool.and_eq_true, decide_eq_true_eq, mayB_iff]
    constructor
    · rintro ⟨⟨⟨⟨⟨h1, h2⟩, h3⟩, h4⟩, h5, h6, h7, h8, h9, h10⟩, rfl⟩
      exact ⟨h1, h2, h3, h4, rfl, h7, h8, h9, h10⟩
    · rintro ⟨h1, h2, h3, h4, rfl, h7, h8, h9, h10⟩
      refine ⟨⟨⟨⟨⟨h1, h2⟩, h3⟩, h4⟩, ?_, ?_, h7, h8, h9, h10⟩, rfl⟩ <;> (unfold Sz1 at hz; omega)
  rw [e]
  have ht : (32 ≤ z → topI z = 0) ∧ (z < 32 → topI z = 64 - 2 * z) := by unfold topI; split <;> omega
  have hs : (n = 1 → szI n m = 64) ∧ (n ≠ 1 → m < 32 → szI n m = 32) ∧ (n ≠ 1 → 32 ≤ m → m < 48 → szI n m = 16) ∧ (n ≠ 1 → 48 ≤ m → m < 56 → szI n m = 8) ∧ (n ≠ 1 → 56 ≤ m → m < 60 → szI n m = 4) ∧ (n ≠ 1 → 60 ≤ m → m < 62 → szI n m = 2) ∧ (n ≠ 1 → 62 ≤ m → szI n m = 0) := by
    unfold szI; (repeat' split) <;> omega
  generalize szI n m = s at *
  generalize topI z = q at *
  unfold wrap64
  rcases hz with rfl | rfl | rfl | rfl | rfl | rfl
  · obtain rfl : q = 60 := by omega
    omega
  · obtain rfl : q = 56 := by omega
    omega
  · obtain rfl : q = 48 := by omega
    omega
  · obtain rfl : q = 32 := by omega
    omega
  · obtain rfl : q = 0 := by omega
    omega
  · obtain rfl : q = 0 := by omega
    omega
theorem refB_val (n r m z w : Int) (hz : Sz1 z) (hm : I64 m) (hw : w = 32 ∨ w = 64) (hzw : z ≤ w) (h : refB n r m z = true) :
    decE n r m w = 0 ∧ wrap64 (wrap64 (m - topI z) + 1) = m - topI z + 1 ∧ Hid (∀ W, Calls Tryz.prog 163 #[.int .i64 z, .int .i64 (wrap64 (wrap64 (m - topI z) + 1)), .int .i64 r, .int .i64 w] W (Ret (.int .u64 (decI n r m w)) W)) := by
  have hq := (refB_iff n r m z hz hm).1 h
  unfold refB at h
  have e : szI n m = z := of_decide_eq_true (Bool.and_eq_true _ _ ▸ h).2
  have hok : okD n r m 64 = true := (Bool.and_eq_true _ _ ▸ h).1
  have ho : wrap64 (wrap64 (m - topI z) + 1) = m - topI z + 1 := by
    have : topI z = if 32 ≤ z then 0 else 64 - 2 * z := rfl
    unfold wrap64
    unfold Sz1 at hz
    split at this <;> omega
  rw [ho] at hq
  have hmay : mayB (szI n m) (m - topI (szI n m) + 1) r w = true := by
    rw [e, mayB_iff]; unfold Sz1 at hz; omega
  have hok' : okD n r m w = true := by
    unfold okD; rw [hmay]; simp; omega
  have hE : decE n r m w = 0 := by
    unfold decE; rw [hok', show widB w = true by simpa [widB] using hw]; rfl
  refine ⟨hE, ho, Lib.hid fun W => ?_⟩
  have hv := rvalue_any _ _ _ _ (pat_of (szI_sz n m w _ r (by omega) hmay) hmay) (by omega : w.toNat = 32 ∨ w.toNat = 64) W
  have e3 : decI n r m w = _ := if_pos hE
  unfold Sz1 at hz
  rw [int_of (by omega), int_of (by rw [e]; omega), int_of (by omega), int_of (by omega), ← e3, e] at hv
  rw [ho]
  exact hv
set_option maxHeartbeats 4000000 in
theorem rdecode_any (n r m w : Int) (hn : I64 n) (hr : I64 r) (hm : I64 m) (hw : I64 w) (W : World) :
    Calls Tryz.prog 140 #[.int .i64 n, .int .i64 r, .int .i64 m, .int .i64 w] W (Ret (.tuple #[.int .u64 (decI n r m w), .int .i64 (decE n r m w)]) W) := by
  by_cases h1 : w = 32 ∨ w = 64
  · have e1 : widB w = true := by simpa [widB] using h1
    generalize hv : Value.tuple #[.int .u64 (decI n r m w), .int .i64 (decE n r m w)] = V
    go_enter Tryz.func140, Tryz.ntmps140
    go_wp2_with (first
          | (go_at_call 139; refine (bad_any _ _).mono ?_; rintro e wA ⟨rfl, hbA⟩; rw [e1]))
    go_loopw [10] (fun s wr => Below W.heap.size W wr ∧ ∃ z : Int, (Sz1 z ∨ z = 128) ∧ s = .int .i64 z ∧ Hid (∀ y, Sz1 y → y < z → refB n r m y = false)) (fun s _ => (130 - intOf s).toNat)
    case atStart => exact ⟨hbA, 2, .inl (.inl rfl), rfl, Lib.hid (fun y h1 h2 => by unfold Sz1 at h1; omega)⟩
    case round =>
      obtain ⟨hB0, z, hz, rfl, hl⟩ := hrel
      by_cases hzw : z ≤ w
      · have hz1 : Sz1 z := by rcases hz with h | h; exact h; omega
        have hzz : z = 2 ∨ z = 4 ∨ z = 8 ∨ z = 16 ∨ z = 32 ∨ z = 64 := hz1
        have hi := refB_iff n r m z hz1 hm
        have ht := Lib.hid (top_any z hz1)
        by_cases hrb : refB n r m z = true
        · have q := hi.1 hrb
          clear hi
          have hval := refB_val n r m z w hz1 hm h1 hzw hrb
          rw [← hv]
          clear hl hz hz1 hrb hv hzz
          obtain ⟨hd1, hd2, hval⟩ := hval
          rw [hd1]
          clear hd1 hd2
          generalize decI n r m w = dd at *
          generalize topI z = tz at *
          obtain ⟨q1, q2, q3, q4, q5, q6, q7, q8⟩ := q
          rcases q2 with rfl | rfl
          · have f1 : (z == 64) = false := beq_false_of_ne (by omega)
            clear q1
            go_wp2_with (first
              | (go_at_call 162; refine (ht.out _).mono ?_; rintro e wB ⟨rfl, hbB⟩; have hB1 := bthen hB0 hbB hB0.size)
              | (go_at_call 163; refine (hval.out _).mono ?_; rintro e wC ⟨rfl, hbC⟩; have hB2 := bthen hB1 hbC hB1.size))
            go_returns
            exact ⟨rfl, hB2⟩
          · obtain rfl : z = 64 := by omega
            clear q1
            go_wp2_with (first
              | (go_at_call 162; refine (ht.out _).mono ?_; rintro e wB ⟨rfl, hbB⟩; have hB1 := bthen hB0 hbB hB0.size)
              | (go_at_call 163; refine (hval.out _).mono ?_; rintro e wC ⟨rfl, hbC⟩; have hB2 := bthen hB1 hbC hB1.size))
            go_returns
            exact ⟨rfl, hB2⟩
        · have hl2 : Hid (∀ y, Sz1 y → y < z * 2 → refB n r m y = false) := Lib.hid (fun y h1 h2 => by
            by_cases h3 : y < z
            · exact hl.out y h1 h3
            · have : y = z := by unfold Sz1 at h1; omega
              rw [this]; simpa using hrb)
          have hq := Lib.hid (mt hi.2 hrb)
          have hz2 : Sz1 (z * 2) ∨ z * 2 = 128 := by unfold Sz1; omega
          have hz3 : z ≤ 64 ∧ 2 ≤ z := by omega
          clear hi hrb hl hz1 hzz hz
          generalize topI z = tz at *
          by_cases n0 : n = 0
          · subst n0
            by_cases z6 : z = 64
            · subst z6
              go_wp2_with (first
              | (go_at_call 162; refine (ht.out _).mono ?_; rintro e wB ⟨rfl, hbB⟩; have hB1 := bthen hB0 hbB hB0.size)
              | (go_at_call 163; exfalso; exact hq.out ⟨by first | omega | simp, by first | omega | simp, by omega, by omega, by omega, by omega, by omega, by omega⟩))
              all_goals first | (exfalso; exact hq.out ⟨by first | omega | simp, by first | omega | simp, by omega, by omega, by omega, by omega, by omega, by omega⟩) | exact ⟨⟨hB1, _, hz2, rfl, hl2⟩, by decide⟩
            · have f1 : (z == 64) = false := beq_false_of_ne z6
              go_wp2_with (first
              | (go_at_call 162; refine (ht.out _).mono ?_; rintro e wB ⟨rfl, hbB⟩; have hB1 := bthen hB0 hbB hB0.size)
              | (go_at_call 163; exfalso; exact hq.out ⟨by first | omega | simp, by first | omega | simp, by omega, by omega, by omega, by omega, by omega, by omega⟩))
              all_goals first | (exfalso; exact hq.out ⟨by first | omega | simp, by first | omega | simp, by omega, by omega, by omega, by omega, by omega, by omega⟩) | exact ⟨⟨hB1, _, hz2, rfl, hl2⟩, by simp [intOf]; omega⟩
          · have f0 : (n == 0) = false := beq_false_of_ne n0
            by_cases n1 : n = 1
            · subst n1
              by_cases z6 : z = 64
              · subst z6
                go_wp2_with (first
              | (go_at_call 162; refine (ht.out _).mono ?_; rintro e wB ⟨rfl, hbB⟩; have hB1 := bthen hB0 hbB hB0.size)
              | (go_at_call 163; exfalso; exact hq.out ⟨by first | omega | simp, by first | omega | simp, by omega, by omega, by omega, by omega, by omega, by omega⟩))
                all_goals first | (exfalso; exact hq.out ⟨by first | omega | simp, by first | omega | simp, by omega, by omega, by omega, by omega, by omega, by omega⟩) | exact ⟨⟨hB1, _, hz2, rfl, hl2⟩, by decide⟩
              · have f1 : (z == 64) = false := beq_false_of_ne z6
                go_wp2_with (first
              | (go_at_call 162; refine (ht.out _).mono ?_; rintro e wB ⟨rfl, hbB⟩; have hB1 := bthen hB0 hbB hB0.size)
              | (go_at_call 163; exfalso; exact hq.out ⟨by first | omega | simp, by first | omega | simp, by omega, by omega, by omega, by omega, by omega, by omega⟩))
                all_goals first | (exfalso; exact hq.out ⟨by first | omega | simp, by first | omega | simp, by omega, by omega, by omega, by omega, by omega, by omega⟩) | exact ⟨⟨hB1, _, hz2, rfl, hl2⟩, by simp [intOf]; omega⟩
            · have f1 : (n == 1) = false := beq_false_of_ne n1
              by_cases z6 : z = 64
              · subst z6
                go_wp2_with (first
              | (go_at_call 162; refine (ht.out _).mono ?_; rintro e wB ⟨rfl, hbB⟩; have hB1 := bthen hB0 hbB hB0.size)
              | (go_at_call 163; exfalso; exact hq.out ⟨by first | omega | simp, by first | omega | simp, by omega, by omega, by omega, by omega, by omega, by omega⟩))
                all_goals first | (exfalso; exact hq.out ⟨by first | omega | simp, by first | omega | simp, by omega, by omega, by omega, by omega, by omega, by omega⟩) | exact ⟨⟨hB1, _, hz2, rfl, hl2⟩, by decide⟩
              · have f2 : (z == 64) = false := beq_false_of_ne z6
                go_wp2_with (first
              | (go_at_call 162; refine (ht.out _).mono ?_; rintro e wB ⟨rfl, hbB⟩; have hB1 := bthen hB0 hbB hB0.size)
              | (go_at_call 163; exfalso; exact hq.out ⟨by first | omega | simp, by first | omega | simp, by omega, by omega, by omega, by omega, by omega, by omega⟩))
                all_goals first | (exfalso; exact hq.out ⟨by first | omega | simp, by first | omega | simp, by omega, by omega, by omega, by omega, by omega, by omega⟩) | exact ⟨⟨hB1, _, hz2, rfl, hl2⟩, by simp [intOf]; omega⟩
      · have hbad : okD n r m w = false := by
          rw [Bool.eq_false_iff]
          intro hok
          have hok2 := hok
          unfold okD at hok2
          simp only [Bool.and_eq_true, decide_eq_true_eq, mayB_iff] at hok2
          have hs := szI_sz n m w _ r (by omega) (by rw [mayB_iff]; exact hok2.2)
          have hs1 : Sz1 (szI n m) := by unfold Sz at hs; unfold Sz1; omega
          have := hl.out _ hs1 (by omega)
          have ht : refB n r m (szI n m) = true := by
            unfold refB okD
            simp only [Bool.and_eq_true, decide_eq_true_eq, mayB_iff]
            unfold Sz1 at hs1
            refine ⟨⟨hok2.1, ?_⟩, trivial⟩
            omega
          rw [this] at ht
          exact absurd ht (by decide)
        have hE : decE n r m w = 20 := by unfold decE; rw [e1, hbad]; rfl
        have hI : decI n r m w = 0 := if_neg (by omega)
        have hV : V = .tuple #[.int .u64 0, .int .i64 20] := by rw [← hv, hE, hI]
        clear hE hI hl hbad hz hv
        go_wp2
        go_returns
        exact ⟨by simp, hB0⟩
  · have e1 := wid_not h1
    have e2 : decE n r m w = 1 := by simp [decE, e1]
    have e3 : decI n r m w = 0 := if_neg (by omega)
    rw [e2, e3]
    clear e2 e3 h1
    go_enter Tryz.func140, Tryz.ntmps140
    go_wp2_with (first
          | (go_at_call 139; refine (bad_any _ _).mono ?_; rintro e wA ⟨rfl, hbA⟩; rw [e1]))
    go_returns
    exact ⟨rfl, hbA⟩
theorem rvaluef_any (f w : Int) (hf : I64 f) (hw : I64 w) (W : World) :
    Calls Tryz.prog 101 #[.int .i64 f, .int .i64 w] W (Ret (.tuple #[.int .u64 (fldI f w), .int .i64 (fldE f w)]) W) := by
  by_cases h1 : w = 32 ∨ w = 64
  · have e1 : widB w = true := by simpa [widB] using h1
    by_cases h2 : 0 ≤ f ∧ f < 8192
    · have e2 : fldE f w = decE (f / 4096) (f / 64 % 64) (f % 64) w := by simp [fldE, e1, h2]
      have e3 : fldI f w = decI (f / 4096) (f / 64 % 64) (f % 64) w := by simp [fldI, e1, h2]
      rw [e2, e3]
      obtain ⟨c1, c2⟩ := h2
      clear e2 e3 h1
      have q1 : I64 (f / 4096) := by unfold I64; omega
      have q2 : I64 (f / 64 % 64) := by unfold I64; omega
      have q3 : I64 (f % 64) := by unfold I64; omega
      have d1 : (f / 64).tmod 64 = f / 64 % 64 := Int.tmod_eq_emod_of_nonneg (by omega)
      have d2 : f.tmod 64 = f % 64 := Int.tmod_eq_emod_of_nonneg (by omega)
      go_enter Tryz.func101, Tryz.ntmps101
      go_wp2_with (first
          | (go_at_call 139; refine (bad_any _ _).mono ?_; rintro e wA ⟨rfl, hbA⟩; rw [e1])
          | (go_at_call 140; refine (rdecode_any _ _ _ _ q1 q2 q3 hw _).mono ?_; rintro e wB ⟨rfl, hbB⟩; have hB := bthen hbA hbB hbA.size))
      go_returns
      exact ⟨rfl, hB⟩
    · have e2 : fldE f w = 20 := by unfold fldE; rw [if_pos e1, if_neg h2]
      have e3 : fldI f w = 0 := by unfold fldI; rw [if_pos e1, if_neg h2]
      rw [e2, e3]
      clear e2 e3 h1
      go_enter Tryz.func101, Tryz.ntmps101
      go_wp2_with (first
          | (go_at_call 139; refine (bad_any _ _).mono ?_; rintro e wA ⟨rfl, hbA⟩; rw [e1])
          | (go_at_call 140; exfalso; omega))
      all_goals (go_returns; exact ⟨rfl, hbA⟩)
  · have e1 := wid_not h1
    have e2 : fldE f w = 1 := by simp [fldE, e1]
    have e3 : fldI f w = 0 := by simp [fldI, e1]
    rw [e2, e3]
    clear e2 e3 h1
    go_enter Tryz.func101, Tryz.ntmps101
    go_wp2_with (first
          | (go_at_call 139; refine (bad_any _ _).mono ?_; rintro e wA ⟨rfl, hbA⟩; rw [e1]))
    go_returns
    exact ⟨rfl, hbA⟩
end Go.Proofs.YtopfaapcekiojaaGreat
