/- Check: which holes may be. -/
import Derived.Test.YtddfafapahnaaaaFixH
import Derived.Test.YtddfafapahnaaaaQuietR
import Derived.Handy
import Derived.RangeFuncBox
import Derived.RangeFuncNested
namespace Go.Proofs.Ytddfafapahnaaaa
open Go.RowKit Go.Sort Go.Shelf
attribute [local go_sem] Oper.semAt_some cell_gr frozen_gr wide_fn asked_wide
set_option linter.unusedVariables false
set_option linter.unusedSimpArgs false

def checkB (k s : Int) : Bool := decide (1 ≤ k) && decide (k ≤ 12) && decide (0 ≤ s) && decide (s ≤ 3) && (decide (s = 0) || decide (k = 9))
def checkE (k s : Int) : Int := if checkB k s then 0 else 1
theorem checkB_iff (k s : Int) : checkB k s = true ↔ 1 ≤ k ∧ k ≤ 12 ∧ 0 ≤ s ∧ s ≤ 3 ∧ (s = 0 ∨ k = 9) := by simp [checkB, and_assoc]
theorem holes_check (k s : Int) : (∃ p ∈ holesL, (p.1 : Int) = k ∧ (p.2 : Int) = s) ↔ checkB k s = true := by
  rw [checkB_iff]
  constructor
  · rintro ⟨p, hp, rfl, rfl⟩
    simp only [holesL, List.mem_cons, List.not_mem_nil, or_false] at hp
    rcases hp with rfl | rfl | rfl | rfl | rfl | rfl | rfl | rfl | rfl | rfl | rfl | rfl | rfl | rfl | rfl <;> decide
  · rintro ⟨h1, h2, h3, h4, h5⟩
    have hk : k = 1 ∨ k = 2 ∨ k = 3 ∨ k = 4 ∨ k = 5 ∨ k = 6 ∨ k = 7 ∨ k = 8 ∨ k = 9 ∨ k = 10 ∨ k = 11 ∨ k = 12 := by omega
    have hs : s = 0 ∨ s = 1 ∨ s = 2 ∨ s = 3 := by omega
    refine ⟨(k.toNat, s.toNat), ?_, by omega, by omega⟩
    rcases hk with rfl | rfl | rfl | rfl | rfl | rfl | rfl | rfl | rfl | rfl | rfl | rfl <;> rcases hs with rfl | rfl | rfl | rfl <;> first | decide | omega
def holeV (k s a : Int) (p m : ByteArray) : Value := .agg #[.int .i64 k, .int .i64 s, .int .i64 a, .string p, .string m]
def holeC (k s a : Int) (p m : ByteArray) : Array Value := #[.int .i64 k, .int .i64 s, .int .i64 a, .string p, .string m]
def CheckW (k s a : Int) (p m : ByteArray) (r : Int) (w W : World) : Prop := W.cell? ⟨w.heap.size, 0, none⟩ = some (.int .i64 k) ∧ W.cell? ⟨w.heap.size, 1, none⟩ = some (.int .i64 s) ∧ W.cell? ⟨w.heap.size + 1, 0, none⟩ = some (.int .i64 r) ∧ W.frozen? ⟨w.heap.size + 1, 0, none⟩ = false
theorem CheckW.kept {k s a : Int} {p m : ByteArray} {r : Int} {w A B : World} {row : Option Nat} (h : CheckW k s a p m r w A) (hg : A.grownBy B row) (hr : ∀ r, row = some r → ∃ o : Obj, A.heap[r]? = some o ∧ o.isCells = false) : CheckW k s a p m r w B :=
  ⟨cell_kept h.1 hg hr, cell_kept h.2.1 hg hr, cell_kept h.2.2.1 hg hr, (frozen_kept h.2.2.1 hg hr).trans h.2.2.2⟩
def CheckI (k s a : Int) (p m : ByteArray) (w : World) (pre : List (Nat × Nat)) (W : World) : Prop := ((∀ q ∈ pre, ¬ ((q.1 : Int) = k ∧ (q.2 : Int) = s)) ∧ CheckW k s a p m 0 w W) ∧ Below w.heap.size w W
def CheckX (k s a : Int) (p m : ByteArray) (w : World) (c : Code) (pre : List (Nat × Nat)) (W : World) : Prop := ((c = .ret ∧ ∃ q ∈ pre, (q.1 : Int) = k ∧ (q.2 : Int) = s) ∧ CheckW k s a p m 0 w W) ∧ Below w.heap.size w W
theorem checkI_own (k s a : Int) (p m : ByteArray) (w : World) (B : Nat) (h : w.heap.size ≤ B) : OwnFrom B (CheckI k s a p m w) :=
  OwnFrom.and (Own.from (fun s A B' row hs hg hr => ⟨hs.1, hs.2.kept hg hr⟩) _) (ownFrom_below (Nat.le_refl _) h)
theorem checkX_own (k s a : Int) (p m : ByteArray) (w : World) (B : Nat) (h : w.heap.size ≤ B) (c : Code) : OwnFrom B (CheckX k s a p m w c) :=
  OwnFrom.and (Own.from (fun s A B' row hs hg hr => ⟨hs.1, hs.2.kept hg hr⟩) _) (ownFrom_below (Nat.le_refl _) h)
set_option maxRecDepth 100000 in
set_option maxHeartbeats 4000000 in
theorem check_in (k s a : Int) (p m : ByteArray) (w : World) :
    CallsIn Fence.wide 4 Try.prog 19 #[holeV k s a p m] w (Ret (.int .i64 (checkE k s)) w) := by
  have hst := holes_stops Fence.wide 3 w.heap.size trivial trivial rfl (by decide)
  replace hst := Lib.hid hst
  unfold holeV
  refine callsIn_of_wp_marks Try.func19 rfl trivial ?_ rfl
  simp only [Try.ntmps19, List.size_toArray, List.length_cons, List.length_nil, Nat.reduceAdd, Nat.reduceSub, Array.replicate_succ, Array.replicate_zero, List.push_toArray, List.append_toArray, List.nil_append, List.cons_append]
  have hho : ∀ W, CallsIn Fence.wide 3 Try.prog 18 #[] W fun e w' => e = .returned (.func (.func 43) #[] #[]) ∧ w' = W := fun W => by
    refine callsIn_of_wp Try.func18 rfl trivial ?_ rfl
    simp only [Try.ntmps18, List.size_toArray, List.length_cons, List.length_nil, Nat.reduceAdd, Nat.reduceSub, Array.replicate_succ, Array.replicate_zero, List.push_toArray, List.append_toArray, List.nil_append, List.cons_append]
    gi_wp2
    go_ret
    exact ⟨rfl, rfl⟩
  replace hho := Lib.hid hho
  gi_wp2_with (gi_at_call 18; refine (hho.out _).mono ?_; rintro e w' ⟨rfl, rfl⟩)
  have hW0 : Below w.heap.size w ((w.alloc (.cells #[.int .i64 k, .int .i64 s, .int .i64 a, .string p, .string m] 25)).alloc (.cells #[.int .i64 0] 34)) := ((Below.refl _ w).alloc (Nat.le_refl _) _).alloc (by simp) _
  have hCW : CheckW k s a p m 0 w ((w.alloc (.cells #[.int .i64 k, .int .i64 s, .int .i64 a, .string p, .string m] 25)).alloc (.cells #[.int .i64 0] 34)) := by
    refine ⟨?_, ?_, ?_, ?_⟩ <;> simp [go_sem]
  have zW : ((w.alloc (.cells #[.int .i64 k, .int .i64 s, .int .i64 a, .string p, .string m] 25)).alloc (.cells #[.int .i64 0] 34)).heap.size = w.heap.size + 2 := by simp
  generalize ((w.alloc (.cells #[.int .i64 k, .int .i64 s, .int .i64 a, .string p, .string m] 25)).alloc (.cells #[.int .i64 0] 34)) = W0 at *
  have hck := holes_check k s
  refine wpIn_rangeFunc_ownH rfl (by decide) (gf := 43) (lb := #[]) rfl trivial (enters_of Try.func43 (by kernel_rfl) rfl)
    (hst.out W0) belowK_t (belowK_b (by omega)) (Below.refl _ _) (fun _ => rfl)
    (CheckI k s a p m w) (CheckX k s a p m w) (checkI_own k s a p m w _ (by omega)) (fun c => checkX_own k s a p m w _ (by omega) c)
    ⟨⟨fun q hq => by simp at hq, hCW⟩, hW0⟩
    (fun x a' W => ∃ b : Nat, a' = { tmps := #[(.agg #[.int .i64 k, .int .i64 s, .int .i64 a, .string p, .string m]), .pointer (some ⟨w.heap.size, 0, none⟩), .pointer (some ⟨w.heap.size + 1, 0, none⟩), .pointer (some ⟨b, 0, none⟩), .func (.func 43) #[] #[], (.agg #[.int .i64 x.1, .int .i64 x.2, .int .i64 0, .string ⟨#[]⟩, .string ⟨#[]⟩]), undef, undef, undef, undef, undef, undef, undef, undef, undef, undef, undef, undef], defers := [] } ∧ W.cell? ⟨b, 0, none⟩ = some (.int .i64 x.1) ∧ W.cell? ⟨b, 1, none⟩ = some (.int .i64 x.2)) (fun x a' => Own.from (fun s A B' row hs hg hr => by obtain ⟨b, h1, h2, h3⟩ := hs; exact ⟨b, h1, cell_kept h2 hg hr, cell_kept h3 hg hr⟩) _) ?assign ?body ?done ?stop
  case assign =>
    intro l pre x W K hI hK
    dsimp only [holeEnc]
    gi_wp2
    exact hK _ _ ((KeepsOthers.alloc W _).from _) ((Below.refl _ W).alloc hI.2.size _) ((checkI_own k s a p m w w.heap.size (Nat.le_refl _)).alloc _ hI) ⟨_, rfl, by simp, by simp⟩
  case body =>
    rintro l pre x a' W _ _ ⟨⟨hpre, c0, c1, c2, c3⟩, hB⟩ ⟨b, rfl, y0, y1⟩ hlt
    by_cases h1 : (x.1 : Int) = k
    · by_cases h2 : (x.2 : Int) = s
      · have b1 : ((x.1 : Int) == k) = true := beq_iff_eq.2 h1
        have b2 : ((x.2 : Int) == s) = true := beq_iff_eq.2 h2
        gi_wp2
        refine ⟨(KeepsOthers.setCell _ _ _).from _, ⟨⟨rfl, x, by simp, h1, h2⟩, ?_⟩, hB.setCell (by dsimp only; omega) _⟩
        refine ⟨?_, ?_, ?_, ?_⟩ <;> simp [go_sem, c0, c1, c2, c3]
      · have b1 : ((x.1 : Int) == k) = true := beq_iff_eq.2 h1
        have b2 : ((x.2 : Int) == s) = false := beq_eq_false_iff_ne.2 h2
        gi_wp2
        refine ⟨KeepsFrom.refl _ _, Below.refl _ _, ⟨fun q hq => ?_, c0, c1, c2, c3⟩, hB⟩
        rcases List.mem_append.1 hq with h | h
        · exact hpre q h
        · obtain rfl : q = x := by simpa using h
          omega
    · have b1 : ((x.1 : Int) == k) = false := beq_eq_false_iff_ne.2 h1
      gi_wp2
      refine ⟨KeepsFrom.refl _ _, Below.refl _ _, ⟨fun q hq => ?_, c0, c1, c2, c3⟩, hB⟩
      rcases List.mem_append.1 hq with h | h
      · exact hpre q h
      · obtain rfl : q = x := by simpa using h
        omega
  case done =>
    rintro D ys W hD rfl ⟨⟨hpre, c0, c1, c2, c3⟩, hB⟩ hK
    have e : checkE k s = 1 := if_neg (fun h => by obtain ⟨q, hq, h1⟩ := hck.2 h; exact hpre q hq h1)
    rw [e]
    gi_wp2
    have hK2 : (W.setCell ⟨w.heap.size + 1, 0, none⟩ (.int .i64 1)).heap[D]? = some (.deferred (some [])) := (Below.heap_setCell _ _ _ _ (by dsimp only; omega)).trans hK
    have hC : CheckW k s a p m 1 w (W.setCell ⟨w.heap.size + 1, 0, none⟩ (.int .i64 1)) := by
      refine ⟨?_, ?_, ?_, ?_⟩ <;> simp [go_sem, c0, c1, c2, c3]
    obtain ⟨r0, r1, r2, r3⟩ := hC.kept (grownBy_putObj' _ D (.deferred none)) (fun r e => by cases e; exact ⟨_, hK2, rfl⟩)
    try rw [Exit.noGoto_ret]
    refine ⟨by simp, .inl ⟨_, _, rfl, run_takeDeferred hK2, ?_⟩⟩
    exact ⟨.int .i64 1, by simp [results, Try.f19, go_sem, r2], by rw [e], (hB.setCell (by dsimp only; omega) _).trans (belowK_b (w := w) (Nat.le_refl _) _ D _ _ (by omega) hK2 rfl rfl)⟩
  case stop =>
    rintro D c pre W hD hpx ⟨⟨⟨rfl, q, hq, hE⟩, hC⟩, hB⟩ hK
    have e : checkE k s = 0 := if_pos (hck.1 ⟨q, hpx.subset hq, hE⟩)
    rw [e]
    gi_wp2
    obtain ⟨r0, r1, r2, r3⟩ := hC.kept (grownBy_putObj' _ D (.deferred none)) (fun r e => by cases e; exact ⟨_, hK, rfl⟩)
    try rw [Exit.noGoto_ret]
    refine ⟨by simp, .inl ⟨_, _, rfl, run_takeDeferred hK, ?_⟩⟩
    exact ⟨.int .i64 0, by simp [results, Try.f19, go_sem, r2], rfl, hB.trans (belowK_b (w := w) (Nat.le_refl _) W D _ _ (by omega) hK rfl rfl)⟩
theorem check_any (k s a : Int) (p m : ByteArray) (w : World) : Calls Try.prog 19 #[holeV k s a p m] w (Ret (.int .i64 (checkE k s)) w) := (callsIn_wide (n := 4)).1 (check_in k s a p m w)
theorem rcheck_any (k s a : Int) (p m : ByteArray) (w : World) : Calls Try.prog 20 #[holeV k s a p m] w (Ret (.int .i64 (checkE k s)) w) := by
  unfold holeV
  by_cases h : checkB k s = true
  · have e : checkE k s = 0 := if_pos h
    rw [e]
    obtain ⟨h1, h2, h3, h4, h5⟩ := (checkB_iff k s).1 h
    have b1 : decide (k < 1) = false := decide_eq_false (by omega)
    have b2 : decide (12 < k) = false := decide_eq_false (by omega)
    have b3 : decide (s < 0) = false := decide_eq_false (by omega)
    have b4 : decide (3 < s) = false := decide_eq_false (by omega)
    have b5 : decide (0 < s) = false ∨ decide (0 < s) = true ∧ (k != 9) = false := by
      rcases h5 with rfl | rfl
      · exact .inl rfl
      · by_cases hs : 0 < s
        · exact .inr ⟨decide_eq_true hs, rfl⟩
        · exact .inl (decide_eq_false hs)
    clear e h h1 h2 h3 h4 h5
    rcases b5 with b5 | ⟨b5, b6⟩
    all_goals
      go_enter Try.func20, Try.ntmps20
      go_wp2
      go_ret
      exact ⟨rfl, bnew _ _⟩
  · have e : checkE k s = 1 := if_neg h
    rw [e]
    rw [checkB_iff] at h
    have hb : decide (k < 1) = true ∨ decide (k < 1) = false ∧ decide (12 < k) = true ∨ decide (k < 1) = false ∧ decide (12 < k) = false ∧ decide (s < 0) = true ∨ decide (k < 1) = false ∧ decide (12 < k) = false ∧ decide (s < 0) = false ∧ decide (3 < s) = true ∨ decide (k < 1) = false ∧ decide (12 < k) = false ∧ decide (s < 0) = false ∧ decide (3 < s) = false ∧ decide (0 < s) = true ∧ (k != 9) = true := by
      simp only [decide_eq_true_eq, decide_eq_false_iff_not, bne_iff_ne, ne_eq]
      omega
    clear e h
    rcases hb with b1 | ⟨b1, b2⟩ | ⟨b1, b2, b3⟩ | ⟨b1, b2, b3, b4⟩ | ⟨b1, b2, b3, b4, b5, b6⟩
    all_goals
      go_enter Try.func20, Try.ntmps20
      go_wp2
      go_ret
      exact ⟨rfl, bnew _ _⟩
end Go.Proofs.Ytddfafapahnaaaa
