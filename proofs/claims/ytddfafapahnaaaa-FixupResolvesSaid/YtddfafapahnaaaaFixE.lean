/- The reference's find. -/
import Derived.Test.YtddfafapahnaaaaFixP
import Derived.Test.YtddfafapahnaaaaFixN
namespace Go.Proofs.Ytddfafapahnaaaa
open Go.RowKit Go.Sort Go.Shelf
attribute [local go_sem] cell_gr frozen_gr
set_option linter.unusedVariables false
set_option linter.unusedSimpArgs false

/-- a term's cells: whether it is there, its number, its section, its value -/
def termC : Option Pt → List Value
  | some p => [.bool true, .int .i64 p.2, .int .i64 p.1.2.1, .int .i64 p.1.2.2.1]
  | none => [.bool false, .int .i64 0, .int .i64 0, .int .i64 0]
def findV : Option (Option Pt) → Value
  | some x => .tuple #[.agg (termC x).toArray, .bool true]
  | none => .tuple #[.agg (termC none).toArray, .bool false]
set_option maxRecDepth 100000 in
set_option maxHeartbeats 4000000 in
theorem rfind_any (sec off : Int) (A : Option Addr) (n ca : Nat) (l : List Sy) (nm : ByteArray) (w : World) (hl : SRow w A n l) :
    Calls Try.prog 38 #[.string nm, .int .i64 sec, .int .i64 off, .slice A n ca] w (Ret (findV (part nm sec off l)) w) := by
  obtain ⟨V, hV⟩ : ∃ V, V = findV (part nm sec off l) := ⟨_, rfl⟩
  rw [← hV]
  by_cases h0 : nm = noS
  · have b0 : (nm.toList == []) = true := by rw [h0, no_list]; rfl
    have e : part nm sec off l = some none := if_pos h0
    rw [e] at hV
    replace hV := Lib.hid hV
    clear h0 e
    go_enter Try.func38, Try.ntmps38
    go_wp2
    try simp only [Exit.inBlock, Exit.then]
    refine bodyPost_ret (results_row rfl _ _ _ _ _ _ rfl rfl (BlockIs.new w _ 83) Try.underlying83 rfl (by kernel_rfl)) rfl ?_
    exact ⟨by rw [hV.out]; rfl, bnew _ _⟩
  · have b0 : (nm.toList == []) = false := beq_eq_false_iff_ne.2 (fun h => h0 (toList_inj (by rw [h, no_list])))
    have e : part nm sec off l = (look nm sec off l).map some := if_neg h0
    rw [e] at hV
    clear h0 e
    by_cases hd : nm = dotS
    · have b : (nm.toList == [46]) = true := by rw [hd, dot_list]; rfl
      have e : look nm sec off l = some ((noS, sec, off, false), -1) := if_pos hd
      rw [e] at hV
      replace hV := Lib.hid hV
      clear hd e
      go_enter Try.func38, Try.ntmps38
      go_wp2
      try simp only [Exit.inBlock, Exit.then]
      refine bodyPost_ret (results_row rfl _ _ _ _ _ _ rfl rfl (BlockIs.new w _ 83) Try.underlying83 rfl (by kernel_rfl)) rfl ?_
      exact ⟨by rw [hV.out]; rfl, bnew _ _⟩
    · have b : (nm.toList == [46]) = false := beq_eq_false_iff_ne.2 (fun h => hd (toList_inj (by rw [h, dot_list])))
      have e : look nm sec off l = (fnd nm l 0).map fun x => (x.1, (x.2 : Int)) := if_neg hd
      rw [e] at hV
      clear hd e
      go_enter Try.func38, Try.ntmps38
      go_wp2
      obtain ⟨hl1, hl2, hl3, hl4⟩ := hl
      have hm : n ≤ 9223372036854775807 := hl2
      go_loopw [10] (fun i wr => ∃ k : Nat, k ≤ n ∧ i = .int .i64 k ∧ Below w.heap.size w wr ∧ BlockIs w.heap.size (termC none) 83 wr ∧ (∀ j (hj : j < l.length), j < k → l[j].1 ≠ nm)) (fun i _ => (n - intOf i).toNat)
      case atStart => exact ⟨0, by omega, rfl, bnew _ _, BlockIs.new w (termC none) _, fun j hj h => by omega⟩
      case round =>
        obtain ⟨k, hk, rfl, hB, hR, hno⟩ := hrel
        have hz := hR.lt
        by_cases hlt : k < n
        · obtain ⟨bs, os, rfl, hbs, hc⟩ := hl4 (by omega)
          obtain ⟨y0, y1, y2, y3⟩ := hc k (by omega)
          replace y0 := (hB.cell (p := ⟨bs, os + k * 4, none⟩) hbs).trans y0
          replace y1 := (hB.cell (p := ⟨bs, os + k * 4 + 1, none⟩) hbs).trans y1
          replace y2 := (hB.cell (p := ⟨bs, os + k * 4 + 2, none⟩) hbs).trans y2
          replace y3 := (hB.cell (p := ⟨bs, os + k * 4 + 3, none⟩) hbs).trans y3
          clear hc hl4
          have c1 : decide ((k : Int) < (n : Int)) = true := decide_eq_true (by omega)
          obtain ⟨r0, s0⟩ := hR.cell 0 _ rfl
          obtain ⟨r1, s1⟩ := hR.cell 1 _ rfl
          obtain ⟨r2, s2⟩ := hR.cell 2 _ rfl
          obtain ⟨r3, s3⟩ := hR.cell 3 _ rfl
          by_cases he : l[k].1 = nm
          · have b2 : (l[k].1.toList == nm.toList) = true := by rw [he]; exact beq_self_eq_true _
            have e2 := fnd_hit l 0 k (by omega) hno he
            rw [e2] at hV
            clear hno e2
            generalize l[k] = sy at *
            replace hV := Lib.hid hV
            have yz : bs < wr.heap.size := Nat.lt_of_lt_of_le hbs hB.size
            go_wp2
            go_region
            go_wp2
            try simp only [Exit.inBlock, Exit.then]
            refine bodyPost_ret (results_row rfl _ _ _ _ _ _ rfl rfl (show BlockIs w.heap.size _ 83 _ from (((hR.set 0 _).set 1 _).set 2 _).set 3 _) Try.underlying83 rfl (by kernel_rfl)) rfl ?_
            exact ⟨by rw [hV.out]; simp [findV, termC], by go_grown⟩
          · have b2 : (l[k].1.toList == nm.toList) = false := beq_eq_false_iff_ne.2 (fun h => he (toList_inj h))
            replace hno := Lib.hid hno
            replace he := Lib.hid he
            replace hV := Lib.hid hV
            go_wp2
            go_roundw
            case rel =>
              refine ⟨k + 1, by omega, by simp, hB, hR, fun j hj h => ?_⟩
              by_cases hjk : j = k
              · subst hjk; exact he.out
              · exact hno.out j hj (by omega)
            case measure => simp [intOf]; omega
        · obtain rfl : k = n := by omega
          have c1 : decide ((k : Int) < (k : Int)) = false := decide_eq_false (by omega)
          have e2 : fnd nm l 0 = none := fnd_miss l 0 (fun j hj => hno j hj (by omega))
          rw [e2] at hV
          clear hno hl4 e2
          replace hV := Lib.hid hV
          obtain ⟨r0, s0⟩ := hR.cell 0 _ rfl
          obtain ⟨r1, s1⟩ := hR.cell 1 _ rfl
          obtain ⟨r2, s2⟩ := hR.cell 2 _ rfl
          obtain ⟨r3, s3⟩ := hR.cell 3 _ rfl
          go_wp2
          try simp only [Exit.inBlock, Exit.then]
          refine bodyPost_ret (results_row rfl _ _ _ _ _ _ rfl rfl ((((hR.set 0 _).set 1 _).set 2 _).set 3 _) Try.underlying83 rfl (by kernel_rfl)) rfl ?_
          exact ⟨by rw [hV.out]; rfl, by go_grown⟩
end Go.Proofs.Ytddfafapahnaaaa
