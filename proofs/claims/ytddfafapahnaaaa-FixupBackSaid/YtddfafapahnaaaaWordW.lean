/- The contract of Word. -/
import Derived.Test.YtddfafapahnaaaaRefW2
import Derived.Test.YtddfafapahnaaaaOpen
import Derived.Outline
namespace Go.Proofs.Ytddfafapahnaaaa
open Go.RowKit Go.Sort
attribute [local go_sem] cell_gr frozen_gr
set_option linter.unusedVariables false

/-- a slice of bytes -/
def BRow (w : World) (A : Option Addr) (n : Nat) (l : List Int) : Prop :=
  l.length = n ∧ (∀ v ∈ l, 0 ≤ v ∧ v < 256) ∧ (0 < n → ∃ b off, A = some ⟨b, off, none⟩ ∧ b < w.heap.size ∧ ∀ k (h : k < l.length), w.cell? ⟨b, off + k, none⟩ = some (.int .u8 l[k]))
theorem BRow.keep {w w' : World} {A : Option Addr} {n : Nat} {l : List Int} (h : BRow w A n l) (hb : Below w.heap.size w w') : BRow w' A n l := by
  refine ⟨h.1, h.2.1, fun hn => ?_⟩
  obtain ⟨b, off, e, hlt, hc⟩ := h.2.2 hn
  refine ⟨b, off, e, Nat.lt_of_lt_of_le hlt hb.size, fun k hk => ?_⟩
  rw [(bcell hb).1 _ _ hlt]
  exact hc k hk
/-- the word of bytes, the lowest first -/
def wordN : List Int → Int
  | [] => 0
  | c :: r => c + 256 * wordN r
def wordI (l : List Int) : Int := if l.length = 4 then wordN l else 0
def wordE (l : List Int) : Int := if l.length = 4 then 0 else 3
theorem or_shift (a c : Int) (k : Nat) (ha : 0 ≤ a) (ha2 : a < 2 ^ k) (hc : 0 ≤ c) (hc2 : c < 256) (hk : k + 8 ≤ 32) : bits BinOp.or IntKind.u32 a (c * 2 ^ k) = a + c * 2 ^ k := by
  obtain ⟨a, rfl⟩ := Int.eq_ofNat_of_zero_le ha
  obtain ⟨c, rfl⟩ := Int.eq_ofNat_of_zero_le hc
  have h1 : c < 256 := by omega
  rw [ipow] at ha2
  have h2 : a < 2 ^ k := by omega
  have h3 : c * 2 ^ k < 2 ^ 32 := by
    have : c * 2 ^ k < 256 * 2 ^ k := Nat.mul_lt_mul_of_pos_right h1 (Nat.two_pow_pos k)
    have e : 256 * 2 ^ k = 2 ^ (k + 8) := by rw [Nat.pow_add, Nat.mul_comm]
    have := npow_le hk
    omega
  have h4 : a < 2 ^ 32 := Nat.lt_of_lt_of_le h2 (npow_le (by omega))
  have e1 : (c : Int) * 2 ^ k = ((c * 2 ^ k : Nat) : Int) := by rw [ipow, Int.natCast_mul]
  rw [e1, u32_or_nat _ _ h4 h3, Nat.or_comm, Nat.mul_comm, ← Nat.two_pow_add_eq_or_of_lt h2, Int.natCast_add, Int.add_comm]
/-- what is gathered of the first k bytes -/
def accW (c0 c1 c2 c3 : Int) : Nat → Int
  | 0 => 0
  | 1 => c0
  | 2 => c0 + c1 * 256
  | 3 => c0 + c1 * 256 + c2 * 65536
  | _ => c0 + c1 * 256 + c2 * 65536 + c3 * 16777216
theorem word_any (A : Option Addr) (n ca : Nat) (l : List Int) (w : World) (hl : BRow w A n l) (hn : n ≤ 9223372036854775807) :
    Calls Try.prog 47 #[.slice A n ca] w (Ret (.tuple #[.int .u32 (wordI l), .int .i64 (wordE l)]) w) := by
  by_cases h4 : n = 4
  · subst h4
    obtain ⟨hl1, hl2, hl3⟩ := hl
    obtain ⟨b, off, rfl, hb, hc⟩ := hl3 (by decide)
    obtain ⟨c0, c1, c2, c3, rfl⟩ : ∃ c0 c1 c2 c3, l = [c0, c1, c2, c3] := by
      match l, hl1 with
      | [c0, c1, c2, c3], _ => exact ⟨c0, c1, c2, c3, rfl⟩
    have f0 := hc 0 (by simp)
    have f1 := hc 1 (by simp)
    have f2 := hc 2 (by simp)
    have f3 := hc 3 (by simp)
    obtain ⟨a0, b0⟩ := hl2 c0 (by simp)
    obtain ⟨a1, b1⟩ := hl2 c1 (by simp)
    obtain ⟨a2, b2⟩ := hl2 c2 (by simp)
    obtain ⟨a3, b3⟩ := hl2 c3 (by simp)
    simp only [List.getElem_cons_zero, List.getElem_cons_succ, Nat.add_zero] at f0 f1 f2 f3
    clear hc hl2 hl3 hl1 hn
    have eW : wordI [c0, c1, c2, c3] = c0 + c1 * 256 + c2 * 65536 + c3 * 16777216 := by unfold wordI; simp [wordN]; omega
    have eE : wordE [c0, c1, c2, c3] = 0 := rfl
    rw [eW, eE]
    have o0 : bits BinOp.or IntKind.u32 0 c0 = c0 := by
      have := or_shift 0 c0 0 (by omega) (by decide) a0 b0 (by decide)
      rwa [Int.pow_zero, Int.mul_one, Int.zero_add] at this
    have o1 : bits BinOp.or IntKind.u32 c0 (c1 * 256) = c0 + c1 * 256 := or_shift c0 c1 8 a0 (by omega) a1 b1 (by decide)
    have o2 : bits BinOp.or IntKind.u32 (c0 + c1 * 256) (c2 * 65536) = c0 + c1 * 256 + c2 * 65536 := or_shift _ c2 16 (by omega) (by omega) a2 b2 (by decide)
    have o3 : bits BinOp.or IntKind.u32 (c0 + c1 * 256 + c2 * 65536) (c3 * 16777216) = c0 + c1 * 256 + c2 * 65536 + c3 * 16777216 := or_shift _ c3 24 (by omega) (by omega) a3 b3 (by decide)
    clear eW eE
    go_enter Try.func47, Try.ntmps47
    go_wp2
    go_loop [4, 12] (fun s i => ∃ k : Nat, k ≤ 4 ∧ s = .int .u32 (accW c0 c1 c2 c3 k) ∧ i = .int .i64 k) (fun _ i => (4 - intOf i).toNat)
    case atStart => exact ⟨0, by omega, rfl, rfl⟩
    case round =>
      obtain ⟨k, hk, rfl, rfl⟩ := hrel
      have hk' : k = 0 ∨ k = 1 ∨ k = 2 ∨ k = 3 ∨ k = 4 := by omega
      rcases hk' with rfl | rfl | rfl | rfl | rfl
      · simp only [accW]
        go_wp2
        go_round
        case rel => exact ⟨1, by omega, rfl, rfl⟩
        case measure => simp [intOf]
      · simp only [accW]
        go_wp2
        go_round
        case rel => exact ⟨2, by omega, rfl, rfl⟩
        case measure => simp [intOf]
      · simp only [accW]
        go_wp2
        go_round
        case rel => exact ⟨3, by omega, rfl, rfl⟩
        case measure => simp [intOf]
      · simp only [accW]
        go_wp2
        go_round
        case rel => exact ⟨4, by omega, rfl, rfl⟩
        case measure => simp [intOf]
      · simp only [accW]
        go_wp2
        go_ret2
        exact ⟨rfl, Below.refl _ _⟩
  · have e1 : wordI l = 0 := if_neg (by rw [hl.1]; exact h4)
    have e2 : wordE l = 3 := if_neg (by rw [hl.1]; exact h4)
    rw [e1, e2]
    have hne : ((n : Int) != 4) = true := by rw [bne_iff_ne]; omega
    clear e1 e2 hl
    go_enter Try.func47, Try.ntmps47
    go_wp2
    go_ret2
    exact ⟨rfl, Below.refl _ _⟩
end Go.Proofs.Ytddfafapahnaaaa
