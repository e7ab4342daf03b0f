/- The reference's Runs; slices.Equal over runs. -/
import Derived.Test.YtjojflodhghdbaaDoorRunP
import Derived.Laws.OwnMore
import Derived.Handy
namespace Go.Proofs.YtjojflodhghdbaaDoor
open Go.RowKit Go.Sort Go.Shelf Go.Joins
attribute [local go_sem] cell_gr frozen_gr
set_option linter.unusedVariables false

theorem refR_last (b : Nat → Bool) : ∀ k q, (refR b k).getLast? = some q → q.1 + q.2 ≤ k
  | 0, q, h => by simp [refR] at h
  | k + 1, q, h => by
    have hk := refR_last b k
    rw [refR] at h
    split at h
    · unfold extR at h
      split at h
      · rename_i p hp
        split at h
        · rename_i he
          rw [List.getLast?_concat] at h
          cases h
          dsimp only; omega
        · rw [List.getLast?_concat] at h
          cases h
          dsimp only; omega
      · rw [List.getLast?_concat] at h
        cases h
        dsimp only; omega
    · have := hk q h; omega
theorem extR_is {l : List (Nat × Nat)} {a n i : Nat} (h : a + n = i) : extR (l ++ [(a, n)]) i = l ++ [(a, n + 1)] := by rw [← h]; exact extR_grow l a n
theorem runVs_set (l' : List (Nat × Nat)) (a n : Nat) (u : Nat) : (runVs (l' ++ [(a, n)])).set (l'.length * 2 + 1) (.int .i64 (u : Int)) = runVs (l' ++ [(a, u)]) := by
  have hlen : (runVs l').length = l'.length * 2 := by
    induction l' with
    | nil => rfl
    | cons q l ih =>
      have e : runVs (q :: l) = .int .i64 q.1 :: .int .i64 q.2 :: runVs l := rfl
      rw [e]
      simp only [List.length_cons, ih]
      omega
  rw [runVs_snoc, runVs_snoc, List.set_append_right _ _ (by omega), hlen, show l'.length * 2 + 1 - l'.length * 2 = 1 by omega]
  rfl
theorem refR_cut (b c : Nat → Bool) (k : Nat) (h1 : ∀ i, i < k → b i = c i) : refR b k = refR c k := by
  induction k with
  | zero => rfl
  | succ k ih => rw [refR, refR, ih (fun i hi => h1 i (by omega)), h1 k (by omega)]
theorem refR_same (v x : Int) (hv : U64 v) : refR (fun i => (runB v x).testBit i) 64 = refR (fun i => v.toNat.testBit i) (min x 64).toNat := by
  have hb : ∀ i, (runB v x).testBit i = (v.toNat.testBit i && decide ((i : Int) < x)) := fun i => by
    unfold runB
    rw [Nat.testBit_and]
    by_cases h : 64 ≤ x
    · rw [ones_hi x h]
      have e : (18446744073709551615 : Int).toNat = 2 ^ 64 - 1 := rfl
      rw [e, Nat.testBit_two_pow_sub_one]
      by_cases hi : i < 64
      · have : (i : Int) < x := by omega
        simp [hi, this]
      · rw [bit_ge (n := 64) (by unfold U64 at hv; omega) (by omega)]; simp
    · by_cases h0 : x < 0
      · rw [ones_neg x h0]
        have : ¬ (i : Int) < x := by omega
        simp [this]
      · rw [onesI_nat x (by omega), Int.toNat_natCast, Nat.testBit_two_pow_sub_one]
        have : (i < x.toNat) = ((i : Int) < x) := by apply propext; omega
        simp [this]
  have hN : (min x 64).toNat ≤ 64 := by omega
  have := refR_zeros (b := fun i => (runB v x).testBit i) (p := (min x 64).toNat) (64 - (min x 64).toNat) (fun i h1 h2 => by
    rw [hb]
    have : ¬ (i : Int) < x := by omega
    simp [this])
  rw [show (min x 64).toNat + (64 - (min x 64).toNat) = 64 by omega] at this
  rw [this]
  refine refR_cut _ _ _ fun i hi => ?_
  rw [hb]
  have : (i : Int) < x := by omega
  simp [this]
set_option maxRecDepth 100000 in
set_option maxHeartbeats 4000000 in
theorem rruns_any (v x : Int) (hv : U64 v) (hx : I64 x) (w : World) :
    Calls Tryd.prog 14 #[.int .u64 v, .int .i64 x] w (RunsGot w (refR (fun i => v.toNat.testBit i) (min x 64).toNat)) := by
  obtain ⟨i0, hi, hz0, hz1, hz2⟩ := info_parts runInfo
  have hnn := refR_last (fun i => v.toNat.testBit i)
  have hll := refR_len (fun i => v.toNat.testBit i)
  have hst : ∀ k, refR (fun i => v.toNat.testBit i) (k + 1) = if v.toNat.testBit k then extR (refR (fun i => v.toNat.testBit i) k) k else refR (fun i => v.toNat.testBit i) k := fun k => rfl
  have h0 : refR (fun i => v.toNat.testBit i) 0 = [] := rfl
  obtain ⟨R, hR⟩ : ∃ R, R = refR (fun i => v.toNat.testBit i) := ⟨_, rfl⟩
  rw [← hR] at hnn hll hst h0 ⊢
  clear hR
  replace hnn := Lib.hid hnn
  replace hll := Lib.hid hll
  replace hst := Lib.hid hst
  obtain ⟨N, hN⟩ : ∃ N, N = (min x 64).toNat := ⟨_, rfl⟩
  rw [← hN]
  have hN64 : N ≤ 64 := by omega
  go_enter Tryd.func14, Tryd.ntmps14
  go_wp2
  go_loopw [5, 6] (fun l i wr => ∃ k : Nat, k ≤ N ∧ i = .int .i64 k ∧ RunRow wr w.heap.size l (R k) ∧ Below w.heap.size w wr) (fun _ i _ => (64 - intOf i).toNat)
  case atStart => exact ⟨0, by omega, rfl, by rw [h0]; exact World.ownsRow_nil _ _ _ _, Below.refl _ _⟩
  case round =>
    obtain ⟨k, hk, rfl, hrow, hB⟩ := hrel
    have hsz := hB.size
    by_cases hlt : k < N
    · have c1 : decide ((k : Int) < min x 64) = true := decide_eq_true (by omega)
      have c2 : k < 64 := by omega
      have hbit := Lib.hid (fun W => bit_same v (k : Int) W hv (by unfold I64; omega) (by omega))
      have hs := hst.out k
      rw [Nat.testBit_eq_decide_div_mod_eq] at hs
      have hbd : bitI v (k : Int) = ((v.toNat / 2 ^ k % 2 : Nat) : Int) := rfl
      by_cases hb : v.toNat / 2 ^ k % 2 = 1
      · rw [hbd, hb] at hbit
        rw [hb, decide_eq_true rfl, if_pos rfl] at hs
        have hl := hll.out k
        have hmx : 65 ≤ maxLen := by unfold maxLen; omega
        have hlv := hrow.len
        rcases List.eq_nil_or_concat (R k) with hn | ⟨l', p, hc⟩
        · rw [hn] at hrow hlv hs hl
          have hs2 : R (k + 1) = [] ++ [(k, 1)] := hs
          have hl1 : ([] ++ [(k, 1)] : List (Nat × Nat)).length = ([] : List (Nat × Nat)).length + 1 := rfl
          replace hs2 := Lib.hid hs2
          clear hs hn hbd hb
          simp only [List.length_nil] at hlv
          go_wp2_with (go_at_call 23; refine (hbit.out _).mono ?_; rintro e wb ⟨rfl, rfl⟩)
          refine wp_region_quiet_below (by kernel_rfl) (by kernel_rfl) ?_
          repeat (go_big_quiet_step (fail))
          refine wpQuiet_nil ?_
          intro w2 hw2
          have hbq := of_gr hw2
          clear hw2
          have hrow2 := hrow.below hbq
          have hB2 := bthen hB hbq hB.size
          have hs2z := hB2.size
          go_wp2_with ((at_builtin; show wpList _ _ _ ({ dst := _, op := Op.call { callee := Callee.builtin Builtin.append, args := _, argTypes := _ }, type := _, pos := _, after := _, guard := _ } :: _) _ _; refine wpList_append_own _ rfl _ _ 27 rfl w.heap.size 30 i0 (.agg #[.int .i64 0, .int .i64 0]) 2 16 Tryd.underlying27 hi hz0 hz1 hz2 rfl (by decide) _ _ _ rfl (World.ownsRow.alloc hrow2 _) ⟨w2.heap.size, 0, none⟩ 1 1 [.int .i64 k, .int .i64 ((1 : Nat) : Int)] rfl rfl (cell_two_new _ _ _ _) (by simp [Value.oneCell']) (by omega) (by omega) (by simp; omega) ?_; intro v' w1 hown' hgrow _; have hB1 := (hB2.alloc hs2z _).grown hgrow (by rw [World.size_alloc]; omega) (fun q hq => (World.ownsRow.lt hrow2 q hq).1)))
          go_roundw
          case rel => exact ⟨k + 1, by omega, by simp, by rw [hs2.out]; exact hown', hB1⟩
          case measure => simp [intOf]; omega
        · rw [List.concat_eq_append] at hc
          have hlast := hnn.out k p (by rw [hc, List.getLast?_concat])
          obtain ⟨a, n⟩ := p
          dsimp only at hlast
          rw [hc] at hrow hlv hs hl
          obtain ⟨g, cap, rfl, hcell⟩ := hrow.cells (by simp)
          obtain ⟨y0, y1⟩ := hcell l'.length (a, n) (by simp)
          have yg : g < wr.heap.size := block_lt_of_cell y0
          rw [Nat.mul_comm] at y0 y1
          obtain ⟨m, hm⟩ : ∃ m, m = l'.length := ⟨_, rfl⟩
          have hl1 : (l' ++ [(a, n)]).length = m + 1 := by rw [hm]; simp
          rw [hl1] at hlv hl
          rw [← hm] at y0 y1
          unfold RunRow at hrow
          rw [hl1] at hrow
          have hmg : (g : Nat) < wr.heap.size := yg
          replace hm := Lib.hid hm
          by_cases hg : a + n = k
          · rw [extR_is hg] at hs
            replace hs := Lib.hid hs
            have gt : ((a : Int) + n == k) = true := by rw [beq_iff_eq]; omega
            clear hc hcell
            go_wp2_with (go_at_call 23; refine (hbit.out _).mono ?_; rintro e wb ⟨rfl, rfl⟩)
            refine wp_region_quiet_below (by kernel_rfl) (by kernel_rfl) ?_
            repeat (go_big_quiet_step (fail))
            refine wpQuiet_nil ?_
            intro w2 hw2
            have hbq := of_gr hw2
            clear hw2
            have hrow2 := World.ownsRow.kept hrow (grown_of hbq) (.inr (by simp [Value.ownBlock]))
            have hB2 := bthen hB hbq hB.size
            have hs2z := hB2.size
            have z1 := ((bcell hbq).1 _ _ yg).trans y1
            have z2 := hrow2.frozenAt (m * 2 + 1)
            have zg := blt hbq yg
            have gB := (World.ownsRow.lt hrow2 g rfl).1
            go_wp2
            go_roundw
            case rel =>
              refine ⟨k + 1, by omega, by simp, ?_, hB2.setCell gB _⟩
              have hst2 := (World.ownsRow.stored hrow2 (m * 2 + 1) (.int .i64 ((n + 1 : Nat) : Int))).1
              rw [hm.out, runVs_set] at hst2
              rw [hs.out]
              unfold RunRow
              rw [show (l' ++ [(a, n + 1)]).length = l'.length + 1 by simp]
              rw [hm.out]
              exact hst2
            case measure => simp [intOf]; omega
          · rw [extR_new (fun p hp => by rw [List.getLast?_concat] at hp; cases hp; exact hg)] at hs
            replace hs := Lib.hid hs
            have gt : ((a : Int) + n == k) = false := by rw [beq_eq_false_iff_ne]; omega
            clear hc hcell
            go_wp2_with (go_at_call 23; refine (hbit.out _).mono ?_; rintro e wb ⟨rfl, rfl⟩)
            refine wp_region_quiet_below (by kernel_rfl) (by kernel_rfl) ?_
            repeat (go_big_quiet_step (fail))
            refine wpQuiet_nil ?_
            intro w2 hw2
            have hbq := of_gr hw2
            clear hw2
            have hrow2 := World.ownsRow.kept hrow (grown_of hbq) (.inr (by simp [Value.ownBlock]))
            have hB2 := bthen hB hbq hB.size
            have hs2z := hB2.size
            go_wp2_with ((at_builtin; show wpList _ _ _ ({ dst := _, op := Op.call { callee := Callee.builtin Builtin.append, args := _, argTypes := _ }, type := _, pos := _, after := _, guard := _ } :: _) _ _; refine wpList_append_own _ rfl _ _ 27 rfl w.heap.size 30 i0 (.agg #[.int .i64 0, .int .i64 0]) 2 16 Tryd.underlying27 hi hz0 hz1 hz2 rfl (by decide) _ _ _ rfl (World.ownsRow.alloc hrow2 _) ⟨w2.heap.size, 0, none⟩ 1 1 [.int .i64 k, .int .i64 ((1 : Nat) : Int)] rfl rfl (cell_two_new _ _ _ _) (by simp [Value.oneCell']) (by omega) (by omega) (by simp; omega) ?_; intro v' w1 hown' hgrow _; have hB1 := (hB2.alloc hs2z _).grown hgrow (by rw [World.size_alloc]; omega) (fun q hq => (World.ownsRow.lt hrow2 q hq).1)))
            go_roundw
            case rel =>
              refine ⟨k + 1, by omega, by simp, ?_, hB1⟩
              rw [hs.out]
              unfold RunRow
              have hl2 : (l' ++ [(a, n)] ++ [(k, 1)]).length = m + 1 + 1 := by rw [List.length_append, hl1]; rfl
              rw [hl2, runVs_snoc]
              exact hown'
            case measure => simp [intOf]; omega
      · rw [hbd, show v.toNat / 2 ^ k % 2 = 0 by omega] at hbit
        rw [show v.toNat / 2 ^ k % 2 = 0 by omega] at hs
        have hs2 : R (k + 1) = R k := hs
        clear hs hbd hb
        go_wp2_with (go_at_call 23; refine (hbit.out _).mono ?_; rintro e wb ⟨rfl, rfl⟩)
        go_roundw
        case rel => exact ⟨k + 1, by omega, by simp, by rw [hs2]; exact hrow, hB⟩
        case measure => simp [intOf]; omega
    · obtain rfl : k = N := by omega
      have c1 : decide ((k : Int) < min x 64) = false := decide_eq_false (by omega)
      go_wp2
      go_returns
      exact ⟨_, rfl, hrow, hB⟩
end Go.Proofs.YtjojflodhghdbaaDoor
