/- All: the iterator over the fields that have a value; told: what it tells, at most so many. -/
import Derived.Test.YtjojflodhghdbaaAllM
import Derived.Test.YtjojflodhghdbaaLogH
import Derived.RangeFuncBox
import Derived.Maps.AppendAt
namespace Go.Proofs.Ytjojflodhghdbaa
open Go.RowKit Go.Sort Go.Shelf
attribute [local go_sem] Oper.semAt_some cell_gr frozen_gr wide_fn asked_wide
set_option linter.unusedVariables false

theorem grown_of {W W' : World} (h : Below W.heap.size W W') : W.grownBy W' none := ⟨h.os, h.tape, h.output, h.size, fun k hk _ => h.block k hk⟩
theorem all_in (F : Fence) (n : Nat) (hF : F.fn 47) (hro : F.round = none) (x : Int) (w : World) :
    CallsIn F n Try.prog 47 #[.int .i64 x] w fun e w' => e = .returned (.func (.func 66) #[] #[.pointer (some ⟨w.heap.size, 0, none⟩)]) ∧ w' = w.alloc (.cells #[.int .i64 x] 3) := by
  refine callsIn_of_wp Try.func47 rfl hF ?_ hro
  simp only [Try.ntmps47, List.size_toArray, List.length_cons, List.length_nil, Nat.reduceAdd, Nat.reduceSub, Array.replicate_succ, Array.replicate_zero, List.push_toArray, List.append_toArray, List.nil_append, List.cons_append]
  gi_wp2
  go_ret
  exact ⟨rfl, rfl⟩
set_option maxRecDepth 100000 in
set_option maxHeartbeats 4000000 in
theorem all_stops (n : Nat) (hn : 1 ≤ n) (Bw n₀ : Nat) (x : Int) (hx : I64 x) (w : World) (hb : Bw < n₀) (hb2 : n₀ ≤ w.heap.size) (hc : w.cell? ⟨Bw, 0, none⟩ = some (.int .i64 x)) :
    SeqStopsK Fence.wide n Try.prog 66 #[.pointer (some ⟨Bw, 0, none⟩)] allEnc (Below n₀) (fun xs => xs = allL x 8192) (fun xs => xs <+: allL x 8192) 8192 w := fun l J Jx W hW hJ _ hY h0 => by
  have hc' := (hW.cell (p := ⟨Bw, 0, none⟩) (by simp; omega)).trans hc
  have hsz := hW.size
  refine callsIn_of_wp Try.func66 rfl trivial ?_ rfl
  simp only [Try.ntmps66, List.size_toArray, List.length_cons, List.length_nil, Nat.reduceAdd, Nat.reduceSub, Array.replicate_succ, Array.replicate_zero, List.push_toArray, List.append_toArray, List.nil_append, List.cons_append]
  gi_wp2
  gi_loopw [6] (fun i wr => ∃ k : Nat, k ≤ 8192 ∧ i = .int .i64 k ∧ J (allL x k) wr ∧ wr.cell? ⟨Bw, 0, none⟩ = some (.int .i64 x) ∧ W.heap.size ≤ wr.heap.size) (fun i _ => 8192 - (intOf i).toNat)
  case atStart => exact ⟨0, by omega, rfl, h0, hc', Nat.le_refl _⟩
  case round =>
    obtain ⟨k, hk, rfl, hJs, hcs, hsr⟩ := hrel
    by_cases hlt : k < 8192
    · have hkI : I64 (k : Int) := by unfold I64; omega
      have hv := Lib.hid (value_any (k : Int) x hkI hx)
      have hlen : (allL x k).length < 8192 := Nat.lt_of_le_of_lt (allL_len x k) hlt
      by_cases hf : fldE (k : Int) x = 0
      · have hnext := allL_hit hf hlt
        rw [hf] at hv
        have henc : allEnc (allAt x k hlt) = #[.int .i64 k, .int .u64 (fldI k x)] := rfl
        replace hnext := Lib.hid hnext
        clear hf
        gi_wp2_with (gi_at_call 37; refine (callsIn_wide.2 (hv.out _)).mono ?_; rintro e wV ⟨rfl, hbV⟩; have hJV := hJ _ _ _ _ hJs (grown_of hbV) (fun r e => by cases e); have hcV := (hbV.cell (p := ⟨Bw, 0, none⟩) (by dsimp only; omega)).trans hcs; have hsV := Nat.le_trans hsr hbV.size; obtain ⟨fn, tmps, assign, body, hy, hR⟩ := hY _ (allAt x k hlt) wV hJV hlen; rw [henc] at hy)
        refine hR.mono ?_
        rintro e W3 (⟨rfl, hJ3, hk3⟩ | ⟨rfl, hJx3⟩)
        · have hc3 := (hk3.cell (p := ⟨Bw, 0, none⟩) hb).trans hcV
          have hs3 := Nat.le_trans hsV hk3.size
          rw [← hnext.out] at hJ3
          gi_wp2
          go_roundw
          case rel => exact ⟨k + 1, by omega, by simp, hJ3, hc3, hs3⟩
          case measure => simp [intOf]; omega
        · have hpre : allL x k ++ [allAt x k hlt] <+: allL x 8192 := by
            rw [← hnext.out]
            have := allL_pre x (k + 1) (8192 - (k + 1))
            rw [show k + 1 + (8192 - (k + 1)) = 8192 by omega] at this
            exact this
          replace hpre := Lib.hid hpre
          gi_wp2
          refine bodyPost_ret (results_none rfl _ _ _) rfl ?_
          exact ⟨⟨_, rfl⟩, .inr ⟨_, hpre.out, hJx3⟩⟩
      · have hnext := allL_miss hf
        have b : (fldE (k : Int) x == 0) = false := beq_false_of_ne hf
        rw [← hnext] at hJs
        clear hf hnext
        gi_wp2_with (gi_at_call 37; refine (callsIn_wide.2 (hv.out _)).mono ?_; rintro e wV ⟨rfl, hbV⟩; have hJV := hJ _ _ _ _ hJs (grown_of hbV) (fun r e => by cases e); have hcV := (hbV.cell (p := ⟨Bw, 0, none⟩) (by dsimp only; omega)).trans hcs; have hsV := Nat.le_trans hsr hbV.size)
        go_roundw
        case rel => exact ⟨k + 1, by omega, by simp, hJV, hcV, hsV⟩
        case measure => simp [intOf]; omega
    · obtain rfl : k = 8192 := by omega
      gi_wp2
      go_end0
      exact ⟨⟨_, rfl⟩, .inl ⟨_, rfl, hJs⟩⟩
end Go.Proofs.Ytjojflodhghdbaa
