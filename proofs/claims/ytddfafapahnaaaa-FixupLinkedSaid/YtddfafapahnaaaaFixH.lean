/- Holes: the iterator over all holes, and Check. -/
import Derived.Test.YtddfafapahnaaaaEachW
namespace Go.Proofs.Ytddfafapahnaaaa
open Go.RowKit Go.Sort Go.Shelf
attribute [local go_sem] Oper.semAt_some
set_option linter.unusedVariables false

def holeEnc (p : Nat × Nat) : Array Value := #[.agg #[.int .i64 p.1, .int .i64 p.2, .int .i64 0, .string ⟨#[]⟩, .string ⟨#[]⟩]]
def holesL : List (Nat × Nat) := [(1, 0), (2, 0), (3, 0), (4, 0), (5, 0), (6, 0), (7, 0), (8, 0), (9, 0), (9, 1), (9, 2), (9, 3), (10, 0), (11, 0), (12, 0)]
def sizeN (k : Nat) : Nat := if k = 9 then 4 else 1
def cntH (k : Nat) : Nat := if k ≤ 9 then k - 1 else k + 2
theorem holesL_at : ∀ k : Nat, 1 ≤ k → k < 13 → ∀ s : Nat, s < sizeN k → holesL.take (cntH k + s) ++ [(k, s)] = holesL.take (cntH k + (s + 1)) ∧ cntH k + s < 15 := by
  intro k h1 h2 s hs
  have : s < 4 := by unfold sizeN at hs; split at hs <;> omega
  have hk : k = 1 ∨ k = 2 ∨ k = 3 ∨ k = 4 ∨ k = 5 ∨ k = 6 ∨ k = 7 ∨ k = 8 ∨ k = 9 ∨ k = 10 ∨ k = 11 ∨ k = 12 := by omega
  have hs4 : s = 0 ∨ s = 1 ∨ s = 2 ∨ s = 3 := by omega
  rcases hk with rfl | rfl | rfl | rfl | rfl | rfl | rfl | rfl | rfl | rfl | rfl | rfl <;> rcases hs4 with rfl | rfl | rfl | rfl <;> first | exact ⟨rfl, by decide⟩ | exact absurd hs (by decide)
theorem cntH_next : ∀ k : Nat, 1 ≤ k → k < 13 → cntH k + sizeN k = cntH (k + 1) := by
  intro k h1 h2
  unfold cntH sizeN
  split <;> split <;> split <;> omega
set_option maxRecDepth 100000 in
set_option maxHeartbeats 4000000 in
theorem holes_stops (F : Fence) (n n₀ : Nat) (hF : F.fn 43) (hF2 : F.fn 44) (hro : F.round = none) (hn : 1 ≤ n) (w : World) :
    SeqStopsK F n Try.prog 43 #[] holeEnc (Below n₀) (fun xs => xs = holesL) (fun xs => xs <+: holesL) 15 w := fun l J Jx W hW _ _ hY h0 => by
  have hsz : ∀ k W, CallsIn F (n - 1) Try.prog 44 #[.int .i64 (k : Nat)] W fun e w' => e = .returned (.int .i64 (sizeN k)) ∧ w' = W := fun k W => by
    refine callsIn_of_wp Try.func44 rfl hF2 ?_ hro
    simp only [Try.ntmps44, List.size_toArray, List.length_cons, List.length_nil, Nat.reduceAdd, Nat.reduceSub, Array.replicate_succ, Array.replicate_zero, List.push_toArray, List.append_toArray, List.nil_append, List.cons_append]
    by_cases h9 : k = 9
    · subst h9
      gi_wp2
      go_ret
      exact ⟨rfl, rfl⟩
    · have b : ((k : Int) == 9) = false := by rw [beq_eq_false_iff_ne]; omega
      have e : sizeN k = 1 := if_neg h9
      rw [e]
      gi_wp2
      go_ret
      exact ⟨rfl, rfl⟩
  refine callsIn_of_wp Try.func43 rfl hF ?_ hro
  simp only [Try.ntmps43, List.size_toArray, List.length_cons, List.length_nil, Nat.reduceAdd, Nat.reduceSub, Array.replicate_succ, Array.replicate_zero, List.push_toArray, List.append_toArray, List.nil_append, List.cons_append]
  replace hsz := Lib.hid hsz
  gi_wp2
  gi_loopw [2] (fun i wr => ∃ k : Nat, 1 ≤ k ∧ k ≤ 13 ∧ i = .int .i64 k ∧ J (holesL.take (cntH k)) wr) (fun i _ => 13 - (intOf i).toNat)
  case atStart => exact ⟨1, by omega, by omega, rfl, h0⟩
  case round =>
    obtain ⟨k, hk1, hk2, rfl, hJs⟩ := hrel
    by_cases hlt : k < 13
    · have b1 : decide ((k : Int) ≤ 12) = true := decide_eq_true (by omega)
      have hz := holesL_at k hk1 hlt
      have hnx := cntH_next k hk1 hlt
      have hz4 : sizeN k ≤ 4 := by unfold sizeN; split <;> omega
      replace hz := Lib.hid hz
      gi_wp2_with (gi_at_call 44; refine (hsz.out _ _).mono ?_; rintro e w' ⟨rfl, rfl⟩)
      gi_loopw [10] (fun i wr => ∃ s : Nat, s ≤ sizeN k ∧ i = .int .i64 s ∧ J (holesL.take (cntH k + s)) wr) (fun i _ => 4 - (intOf i).toNat)
      case atStart => exact ⟨0, by omega, rfl, hJs⟩
      case round =>
        obtain ⟨s, hs, rfl, hJ1⟩ := hrel
        by_cases hls : s < sizeN k
        · obtain ⟨z1, z2⟩ := hz.out s hls
          obtain ⟨fn, tmps, assign, body, hy, hR⟩ := hY _ (k, s) _ hJ1 (by rw [List.length_take]; omega)
          rw [z1] at hR
          rw [show holeEnc (k, s) = #[.agg #[.int .i64 k, .int .i64 s, .int .i64 0, .string ⟨#[]⟩, .string ⟨#[]⟩]] from rfl] at hy
          replace z1 := Lib.hid z1
          gi_wp2
          refine hR.mono ?_
          rintro e W3 (⟨rfl, hJ3, hk3⟩ | ⟨rfl, hJx3⟩)
          · gi_wp2
            go_roundw
            case rel => exact ⟨s + 1, by omega, by simp, hJ3⟩
            case measure => simp [intOf]; omega
          · gi_wp2
            refine bodyPost_ret (results_none rfl _ _ _) rfl ?_
            exact ⟨⟨_, rfl⟩, .inr ⟨_, List.take_prefix _ _, hJx3⟩⟩
        · obtain rfl : s = sizeN k := by omega
          rw [hnx] at hJ1
          gi_wp2
          go_roundw
          case rel => exact ⟨k + 1, by omega, by omega, by simp, hJ1⟩
          case measure => simp [intOf]; omega
    · obtain rfl : k = 13 := by omega
      gi_wp2
      go_end0
      exact ⟨⟨_, rfl⟩, .inl ⟨_, rfl, hJs⟩⟩
end Go.Proofs.Ytddfafapahnaaaa
