/- The contract of Word. -/
import Derived.Test.YtopfaapcekiojaaGreatRefW2
import Derived.Test.YtopfaapcekiojaaGreatOpen
import Derived.Outline
import Derived.Test.YtopfaapcekiojaaGreatDecD
import Derived.Test.YtopfaapcekiojaaGreatLogH
import Derived.RangeFuncBox
import Derived.Maps.AppendAt
namespace Go.Proofs.YtopfaapcekiojaaGreat
open Go.RowKit Go.Sort
attribute [local go_sem] cell_gr frozen_gr
set_option linter.unusedVariables false

/-- a slice of bytes -/
def BRow (w : World) (A : Option Addr) (n : Nat) (l : List Int) : Prop :=
  l.length = n ∧ (∀ v ∈ l, 0 ≤ v ∧ v < 256) ∧ (0 < n → ∃ b off, A = some ⟨b, off, none⟩ ∧ b < w.heap.size ∧ ∀ k (h : k < l.length), w.cell? ⟨b, off + k, none⟩ = some (.int .u8 l[k]))
theorem BRow.keep {w w' : World} {A : Option Addr} {n : Nat} {l : List Int} (h : BRow w A n l) (hb : Below w.heap.size w w') : BRow w' A n l := by
  refine ⟨h.1, h.2.1, fun hn => ?_⟩
  obtain ⟨b, off, e, hlt, hc⟩ := h.2.2 hn
  refine ⟨b, off, e, Nat.lt_of_lt_of_le hlt hb.size, fun k hk => ?_⟩
  rw [(bcell hb).1 _ _ hlt]
  exact hc k hk
/-- the word of bytes, the lowest first -/
def wordN : List Int → Int
  | [] => 0
  | c :: r => c + 256 * wordN r
def wordI (l : List Int) : Int := if l.length = 4 then wordN l else 0
def wordE (l : List Int) : Int := if l.length = 4 then 0 else 3
theorem or_shift (a c : Int) (k : Nat) (ha : 0 ≤ a) (ha2 : a < 2 ^ k) (hc : 0 ≤ c) (hc2 : c < 256) (hk : k + 8 ≤ 32) : bits BinOp.or IntKind.u32 a (c * 2 ^ k) = a + c * 2 ^ k := by
  obtain ⟨a, rfl⟩ := Int.eq_ofNat_of_zero_le ha
  obtain ⟨c, rfl⟩ := Int.eq_ofNat_of_zero_le hc
  have h1 : c < 256 := by omega
  rw [ipow] at ha2
  have h2 : a < 2 ^ k := by omega
  have h3 : c * 2 ^ k < 2 ^ 32 := by
    have : c * 2 ^ k < 256 * 2 ^ k := Nat.mul_lt_mul_of_pos_right h1 (Nat.two_pow_pos k)
    have e : 256 * 2 ^ k = 2 ^ (k + 8) := by rw [Nat.pow_add, Nat.mul_comm]
    have := npow_le hk
    omega
  have h4 : a < 2 ^ 32 := Nat.lt_of_lt_of_le h2 (npow_le (by omega))
  have e1 : (c : Int) * 2 ^ k = ((c * 2 ^ k : Nat) : Int) := by rw [ipow, Int.natCast_mul]
  rw [e1, u32_or_nat _ _ h4 h3, Nat.or_comm, Nat.mul_comm, ← Nat.two_pow_add_eq_or_of_lt h2, Int.natCast_add, Int.add_comm]
/-- what is gathered of the first k bytes -/
def accW (c0 c1 c2 c3 : Int) : Nat → Int
  | 0 => 0
  | 1 => c0
  | 2 => c0 + c1 * 256
  | 3 => c0 + c1 * 256 + c2 * 65536
  | _ => c0 + c1 * 256 + c2 * 65536 + c3 * 16777216
theorem word_any (A : Option Addr) (n ca : Nat) (l : List Int) (w : World) (hl : BRow w A n l) (hn : n ≤ 9223372036854775807) :
    Calls Tryz.prog 38 #[.slice A n ca] w (Ret (.tuple #[.int .u32 (wordI l), .int .i64 (wordE l)]) w) := by
  by_cases h4 : n = 4
  · subst h4
    obtain ⟨hl1, hl2, hl3⟩ := hl
    obtain ⟨b, off, rfl, hb, hc⟩ := hl3 (by decide)
    obtain ⟨c0, c1, c2, c3, rfl⟩ : ∃ c0 c1 c2 c3, l = [c0, c1, c2, c3] := by
      match l, hl1 with
      | [c0, c1, c2, c3], _ => exact ⟨c0, c1, c2, c3, rfl⟩
    have f0 := hc 0 (by simp)
    have f1 := hc 1 (by simp)
    have f2 := hc 2 (by simp)
    have f3 := hc 3 (by simp)
    obtain ⟨a0, b0⟩ := hl2 c0 (by simp)
    obtain ⟨a1, b1⟩ := hl2 c1 (by simp)
    obtain ⟨a2, b2⟩ := hl2 c2 (by simp)
    obtain ⟨a3, b3⟩ := hl2 c3 (by simp)
    simp only [List.getElem_cons_zero, List.getElem_cons_succ, Nat.add_zero] at f0 f1 f2 f3
    clear hc hl2 hl3 hl1 hn
    have eW : wordI [c0, c1, c2, c3] = c0 + c1 * 256 + c2 * 65536 + c3 * 16777216 := by unfold wordI; simp [wordN]; omega
    have eE : wordE [c0, c1, c2, c3] = 0 := rfl
    rw [eW, eE]
    have o0 : bits BinOp.or IntKind.u32 0 c0 = c0 := by
      have := or_shift 0 c0 0 (by omega) (by decide) a0 b0 (by decide)
      rwa [Int.pow_zero, Int.mul_one, Int.zero_add] at this
    have o1 : bits BinOp.or IntKind.u32 c0 (c1 * 256) = c0 + c1 * 256 := or_shift c0 c1 8 a0 (by omega) a1 b1 (by decide)
    have o2 : bits BinOp.or IntKind.u32 (c0 + c1 * 256) (c2 * 65536) = c0 + c1 * 256 + c2 * 65536 := or_shift _ c2 16 (by omega) (by omega) a2 b2 (by decide)
    have o3 : bits BinOp.or IntKind.u32 (c0 + c1 * 256 + c2 * 65536) (c3 * 16777216) = c0 + c1 * 256 + c2 * 65536 + c3 * 16777216 := or_shift _ c3 24 (by omega) (by omega) a3 b3 (by decide)
    clear eW eE
    go_enter Tryz.func38, Tryz.ntmps38
    go_wp2
    go_loop [4, 12] (fun s i => ∃ k : Nat, k ≤ 4 ∧ s = .int .u32 (accW c0 c1 c2 c3 k) ∧ i = .int .i64 k) (fun _ i => (4 - intOf i).toNat)
    case atStart => exact ⟨0, by omega, rfl, rfl⟩
    case round =>
      obtain ⟨k, hk, rfl, rfl⟩ := hrel
      have hk' : k = 0 ∨ k = 1 ∨ k = 2 ∨ k = 3 ∨ k = 4 := by omega
      rcases hk' with rfl | rfl | rfl | rfl | rfl
      · simp only [accW]
        go_wp2
        go_round
        case rel => exact ⟨1, by omega, rfl, rfl⟩
        case measure => simp [intOf]
      · simp only [accW]
        go_wp2
        go_round
        case rel => exact ⟨2, by omega, rfl, rfl⟩
        case measure => simp [intOf]
      · simp only [accW]
        go_wp2
        go_round
        case rel => exact ⟨3, by omega, rfl, rfl⟩
        case measure => simp [intOf]
      · simp only [accW]
        go_wp2
        go_round
        case rel => exact ⟨4, by omega, rfl, rfl⟩
        case measure => simp [intOf]
      · simp only [accW]
        go_wp2
        go_ret2
        exact ⟨rfl, Below.refl _ _⟩
  · have e1 : wordI l = 0 := if_neg (by rw [hl.1]; exact h4)
    have e2 : wordE l = 3 := if_neg (by rw [hl.1]; exact h4)
    rw [e1, e2]
    have hne : ((n : Int) != 4) = true := by rw [bne_iff_ne]; omega
    clear e1 e2 hl
    go_enter Tryz.func38, Tryz.ntmps38
    go_wp2
    go_ret2
    exact ⟨rfl, Below.refl _ _⟩
end Go.Proofs.YtopfaapcekiojaaGreat

/- The words of bytes and their instructions, plainly; the iterator All. -/
namespace Go.Proofs.YtopfaapcekiojaaGreat
open Go.RowKit Go.Sort Go.Shelf Sym Two
set_option linter.unusedVariables false

/-- bytes -/
def Bys (l : List Int) : Prop := ∀ v ∈ l, 0 ≤ v ∧ v < 256
theorem Bys.at {l : List Int} (h : Bys l) (j : Nat) : 0 ≤ l.getD j 0 ∧ l.getD j 0 < 256 := by
  rcases Nat.lt_or_ge j l.length with hj | hj
  · rw [List.getD_eq_getElem?_getD, List.getElem?_eq_getElem hj]
    exact h _ (List.getElem_mem hj)
  · rw [List.getD_eq_getElem?_getD, List.getElem?_eq_none hj]
    exact ⟨by decide, by decide⟩
/-- the word at place j of bytes -/
def wdOf (l : List Int) (j : Nat) : Int := l.getD (4 * j) 0 + l.getD (4 * j + 1) 0 * 256 + l.getD (4 * j + 2) 0 * 65536 + l.getD (4 * j + 3) 0 * 16777216
theorem wdOf_u32 {l : List Int} (h : Bys l) (j : Nat) : U32 (wdOf l j) := by
  have h0 := h.at (4 * j)
  have h1 := h.at (4 * j + 1)
  have h2 := h.at (4 * j + 2)
  have h3 := h.at (4 * j + 3)
  unfold wdOf U32
  omega
/-- a word and its instruction -/
def BX : Type := { p : Int × Ins // U32 p.1 ∧ p.2.wf ∧ 0 ≤ p.2.op ∧ p.2.op ≤ 32 }
def bxEnc (p : BX) : Array Value := #[.int .u32 p.1.1, p.1.2.val]
noncomputable def bxAt (l : List Int) (h : Bys l) (j : Nat) : BX := ⟨(wdOf l j, dY (wdOf l j)), wdOf_u32 h j, (d_is _ (wdOf_u32 h j)).1, (d_is _ (wdOf_u32 h j)).2.1, (d_is _ (wdOf_u32 h j)).2.2.1⟩
/-- the first k -/
noncomputable def bxL (l : List Int) (h : Bys l) (k : Nat) : List BX := (List.range k).map (bxAt l h)
theorem bxL_succ (l : List Int) (h : Bys l) (k : Nat) : bxL l h (k + 1) = bxL l h k ++ [bxAt l h k] := by simp [bxL, List.range_succ]
theorem bxL_len (l : List Int) (h : Bys l) (k : Nat) : (bxL l h k).length = k := by simp [bxL]
theorem bxL_pre (l : List Int) (h : Bys l) (k : Nat) : ∀ n, bxL l h k <+: bxL l h (k + n)
  | 0 => ⟨[], by simp⟩
  | n + 1 => (bxL_pre l h k n).trans ⟨_, (bxL_succ l h (k + n)).symm⟩
/-- a slice of bytes in a block below n₀ -/
def BRowB (n₀ : Nat) (w : World) (A : Option Addr) (n : Nat) (l : List Int) : Prop :=
  l.length = n ∧ (0 < n → ∃ b off, A = some ⟨b, off, none⟩ ∧ b < n₀ ∧ ∀ k (h : k < l.length), w.cell? ⟨b, off + k, none⟩ = some (.int .u8 l[k]))
theorem BRowB.below {n₀ : Nat} {w w' : World} {A : Option Addr} {n : Nat} {l : List Int} (h : BRowB n₀ w A n l) (hb : Below n₀ w w') : BRowB n₀ w' A n l := by
  refine ⟨h.1, fun hn => ?_⟩
  obtain ⟨b, off, e, hlt, hc⟩ := h.2 hn
  refine ⟨b, off, e, hlt, fun k hk => ?_⟩
  rw [hb.cell (p := ⟨b, off + k, none⟩) hlt]
  exact hc k hk
/-- four bytes of it -/
theorem BRowB.four {n₀ : Nat} {w : World} {A : Option Addr} {n : Nat} {l : List Int} (h : BRowB n₀ w A n l) (hl : Bys l) {k : Nat} (hk : 4 * k + 4 ≤ n) (hz : n₀ ≤ w.heap.size) :
    ∃ b off, A = some ⟨b, off, none⟩ ∧ BRow w (some ⟨b, off + 4 * k, none⟩) 4 [l.getD (4 * k) 0, l.getD (4 * k + 1) 0, l.getD (4 * k + 2) 0, l.getD (4 * k + 3) 0] := by
  obtain ⟨b, off, e, hlt, hc⟩ := h.2 (by omega)
  have hlen := h.1
  refine ⟨b, off, e, rfl, fun v hv => ?_, fun _ => ⟨b, off + 4 * k, rfl, by omega, fun j hj => ?_⟩⟩
  · simp only [List.mem_cons, List.not_mem_nil, or_false] at hv
    rcases hv with rfl | rfl | rfl | rfl <;> exact hl.at _
  · have hj4 : j < 4 := hj
    have key : ∀ i (hi : i < l.length), w.cell? ⟨b, off + i, none⟩ = some (.int .u8 (l.getD i 0)) := fun i hi => by rw [hc i hi, List.getD_eq_getElem?_getD, List.getElem?_eq_getElem hi]; rfl
    rcases (show j = 0 ∨ j = 1 ∨ j = 2 ∨ j = 3 by omega) with rfl | rfl | rfl | rfl
    · exact key (4 * k) (by omega)
    · rw [Nat.add_assoc]; exact key (4 * k + 1) (by omega)
    · rw [Nat.add_assoc]; exact key (4 * k + 2) (by omega)
    · rw [Nat.add_assoc]; exact key (4 * k + 3) (by omega)
theorem word_four (l : List Int) (k : Nat) : wordI [l.getD (4 * k) 0, l.getD (4 * k + 1) 0, l.getD (4 * k + 2) 0, l.getD (4 * k + 3) 0] = wdOf l k := by
  unfold wordI wdOf
  rw [if_pos (by rfl : List.length _ = 4)]
  simp [wordN]
  try omega
end Go.Proofs.YtopfaapcekiojaaGreat
