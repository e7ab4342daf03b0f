/- Logical immediates: find. -/
import Derived.Test.YtopfaapcekiojaaGreatLogG
import Derived.Test.YtopfaapcekiojaaGreatLogN
import Derived.Test.YtopfaapcekiojaaGreatQuietR
namespace Go.Proofs.YtopfaapcekiojaaGreat
open Go.RowKit Go.Sort Go.Shelf
attribute [local go_sem] Oper.semAt_some cell_gr frozen_gr wide_fn asked_wide
set_option linter.unusedVariables false

theorem sizes_in (F : Fence) (n : Nat) (hF : F.fn 173) (hro : F.round = none) (x : Int) (w : World) :
    CallsIn F n Tryz.prog 173 #[.int .i64 x] w fun e w' => e = .returned (.func (.func 175) #[] #[.pointer (some ⟨w.heap.size, 0, none⟩)]) ∧ w' = w.alloc (.cells #[.int .i64 x] 3) := by
  refine callsIn_of_wp Tryz.func173 rfl hF ?_ hro
  simp only [Tryz.ntmps173, List.size_toArray, List.length_cons, List.length_nil, Nat.reduceAdd, Nat.reduceSub, Array.replicate_succ, Array.replicate_zero, List.push_toArray, List.append_toArray, List.nil_append, List.cons_append]
  gi_wp2
  go_ret
  exact ⟨rfl, rfl⟩
theorem others_of {W W' : World} (h : Below W.heap.size W W') : KeepsOthers W W' := by
  exact ⟨h.size, fun k o hk _ => (h.block k (Array.getElem?_eq_some_iff.1 hk).1).trans hk⟩
theorem wpIn_scope_wide {n : Nat} {P : Program} {c : Code} {Q : Exit → Act → World → Prop} {a : Act} {w : World} (h : c.wpIn Fence.wide n P (Exit.noGoto Q) a w) : (Code.scope c).wpIn Fence.wide n P Q a w := wpIn_wide.2 (wp_scope_straight (wpIn_wide.1 h))
/-- what find finds -/
def findT (p : Nat × Nat × Nat) (e : Int) : Value := .tuple #[.agg #[.int .i64 p.1, .int .i64 p.2.1, .int .i64 p.2.2], .int .i64 e]
noncomputable def patE (v w : Nat) : Int := open Classical in if HasPat v w then 0 else 20
theorem mask_fact (z : Nat) (hz : Sz z) : (18446744073709551615 : Int) / 2 ^ (64 - z) = ((2 ^ z - 1 : Nat) : Int) := by
  rcases hz with rfl | rfl | rfl | rfl | rfl | rfl <;> decide
theorem low_fact (v z : Nat) (hv : v < 18446744073709551616) (hz : z ≤ 64) : bits BinOp.and IntKind.u64 (v : Int) ((2 ^ z - 1 : Nat) : Int) = ((v % 2 ^ z : Nat) : Int) := by
  rw [u64_and_nat _ _ hv (lt64 (k := z) (by have := Nat.two_pow_pos z; omega) hz), Nat.and_two_pow_sub_one_eq_mod]
theorem part_fact (v a z : Nat) (hv : v < 18446744073709551616) (hz : z ≤ 64) : bits BinOp.and IntKind.u64 ((v : Int) / 2 ^ a) ((2 ^ z - 1 : Nat) : Int) = ((v / 2 ^ a % 2 ^ z : Nat) : Int) := by
  have e : (v : Int) / 2 ^ a = ((v / 2 ^ a : Nat) : Int) := by rw [ipow, Int.natCast_ediv]
  rw [e, low_fact _ _ (Nat.lt_of_le_of_lt (Nat.div_le_self _ _) hv) hz]
/-- how far the turn in a block is from its end -/
def turnOf (B z : Nat) (W : World) : Nat := match W.cell? ⟨B, 2, none⟩ with
  | some (.int _ t) => z - t.toNat
  | _ => 0
theorem turnOf_at {B z : Nat} {W : World} {t : Nat} (h : W.cell? ⟨B, 2, none⟩ = some (.int .i64 t)) : turnOf B z W = z - t := by
  unfold turnOf; rw [h]; simp
/-- the pattern that find tries -/
def FindP (z o t B : Nat) (W : World) : Prop := W.cell? ⟨B, 0, none⟩ = some (.int .i64 z) ∧ W.cell? ⟨B, 1, none⟩ = some (.int .i64 o) ∧ W.cell? ⟨B, 2, none⟩ = some (.int .i64 t) ∧ W.frozen? ⟨B, 2, none⟩ = false
/-- between two rounds of find: the sizes that came are none; v, the width and the results lie as they lay -/
def FindC (v w : Nat) (W W1 : World) : Prop := W1.cell? ⟨W.heap.size, 0, none⟩ = some (.int .u64 v) ∧ W1.cell? ⟨W.heap.size + 1, 0, none⟩ = some (.int .i64 w)
def FindR (p : Nat × Nat × Nat) (e : Int) (W W1 : World) : Prop := W1.cell? ⟨W.heap.size + 1 + 1, 0, none⟩ = some (.int .i64 p.1) ∧ W1.cell? ⟨W.heap.size + 1 + 1, 1, none⟩ = some (.int .i64 p.2.1) ∧ W1.cell? ⟨W.heap.size + 1 + 1, 2, none⟩ = some (.int .i64 p.2.2) ∧ W1.cell? ⟨W.heap.size + 1 + 1 + 1, 0, none⟩ = some (.int .i64 e)
def FindF (W W1 : World) : Prop := W1.frozen? ⟨W.heap.size + 1 + 1, 0, none⟩ = false ∧ W1.frozen? ⟨W.heap.size + 1 + 1, 1, none⟩ = false ∧ W1.frozen? ⟨W.heap.size + 1 + 1, 2, none⟩ = false ∧ W1.frozen? ⟨W.heap.size + 1 + 1 + 1, 0, none⟩ = false
def FindI (v w : Nat) (W : World) (pre : List (SzX w)) (W1 : World) : Prop := ((∀ y ∈ pre, ¬ Again v y.1.toNat w) ∧ W1.cell? ⟨W.heap.size, 0, none⟩ = some (.int .u64 v) ∧ W1.cell? ⟨W.heap.size + 1, 0, none⟩ = some (.int .i64 w) ∧ FindR (0, 0, 0) 0 W W1 ∧ FindF W W1) ∧ Below W.heap.size W W1
/-- where find leaves: no pattern has that size -/
def FindE (v w : Nat) (pre : List (SzX w)) : Prop := ∃ pre0 x, pre = pre0 ++ [x] ∧ (∀ y ∈ pre0, ¬ Again v y.1.toNat w) ∧ Again v x.1.toNat w ∧ (∀ t, ¬ IsPat v w x.1.toNat (Pop.pc 64 (v % 2 ^ x.1.toNat)) t)
def FindX (v w : Nat) (W : World) (c : Code) (pre : List (SzX w)) (W1 : World) : Prop := ((c = .ret ∧ FindR (patV v w) (patE v w) W W1) ∨ (c = .exit 0 ∧ FindE v w pre ∧ FindR (0, 0, 0) 0 W W1 ∧ FindF W W1)) ∧ Below W.heap.size W W1
theorem findR_kept {p : Nat × Nat × Nat} {e : Int} {W A B : World} {row : Option Nat} (h : FindR p e W A) (hg : A.grownBy B row) (hr : ∀ r, row = some r → ∃ o : Obj, A.heap[r]? = some o ∧ o.isCells = false) : FindR p e W B :=
  ⟨cell_kept h.1 hg hr, cell_kept h.2.1 hg hr, cell_kept h.2.2.1 hg hr, cell_kept h.2.2.2 hg hr⟩
theorem findF_kept {p : Nat × Nat × Nat} {e : Int} {W A B : World} {row : Option Nat} (h : FindR p e W A) (hf : FindF W A) (hg : A.grownBy B row) (hr : ∀ r, row = some r → ∃ o : Obj, A.heap[r]? = some o ∧ o.isCells = false) : FindF W B :=
  ⟨(frozen_kept h.1 hg hr).trans hf.1, (frozen_kept h.2.1 hg hr).trans hf.2.1, (frozen_kept h.2.2.1 hg hr).trans hf.2.2.1, (frozen_kept h.2.2.2 hg hr).trans hf.2.2.2⟩
def FindW (v w : Nat) (W W1 : World) : Prop := W1.cell? ⟨W.heap.size, 0, none⟩ = some (.int .u64 v) ∧ W1.cell? ⟨W.heap.size + 1, 0, none⟩ = some (.int .i64 w) ∧ FindR (0, 0, 0) 0 W W1 ∧ FindF W W1
theorem findR_set {p q : Nat × Nat × Nat} {e f : Int} {W A : World} (h : FindR p e W A) : FindR q f W ((((A.setCell ⟨W.heap.size + 1 + 1, 0, none⟩ (.int .i64 q.1)).setCell ⟨W.heap.size + 1 + 1, 1, none⟩ (.int .i64 q.2.1)).setCell ⟨W.heap.size + 1 + 1, 2, none⟩ (.int .i64 q.2.2)).setCell ⟨W.heap.size + 1 + 1 + 1, 0, none⟩ (.int .i64 f)) := by
  obtain ⟨h1, h2, h3, h4⟩ := h
  refine ⟨?_, ?_, ?_, ?_⟩ <;> simp [go_sem, h1, h2, h3, h4]
theorem findP_set {z o t u B : Nat} {A : World} (h : FindP z o t B A) : FindP z o u B (A.setCell ⟨B, 2, none⟩ (.int .i64 u)) := by
  obtain ⟨p0, p1, p2, p3⟩ := h
  refine ⟨?_, ?_, ?_, ?_⟩ <;> simp [go_sem, p0, p1, p2, p3]
theorem pre_all {w : Int} (pre0 : List (SzX w)) (x : SzX w) (h : ((pre0 ++ [x]).map (fun y => y.1)).isPrefixOf [2, 4, 8, 16, 32, 64] = true) (y : Int) (hy : Sz1 y) (hlt : y < x.1) : ∃ u ∈ pre0, u.1 = y := by
  have hM : y ∈ pre0.map (fun y => y.1) := by
    rw [List.map_append, List.isPrefixOf_iff_prefix] at h
    simp only [List.map_cons, List.map_nil] at h
    generalize pre0.map (fun y => y.1) = M at *
    generalize x.1 = z at *
    obtain ⟨t, ht⟩ := h
    unfold Sz1 at hy
    rcases M with _ | ⟨a, _ | ⟨b, _ | ⟨c, _ | ⟨d, _ | ⟨e, _ | ⟨f, M⟩⟩⟩⟩⟩⟩ <;> simp at ht <;> simp <;> omega
  obtain ⟨u, hu, rfl⟩ := List.mem_map.1 hM
  exact ⟨u, hu, rfl⟩
theorem FindW.below {v w B : Nat} {W A A' : World} (h : FindW v w W A) (hb : Below B A A') (hB : W.heap.size + 3 < B) : FindW v w W A' := by
  obtain ⟨d0, d1, ⟨d2, d3, d4, d5⟩, g2, g3, g4, g5⟩ := h
  exact ⟨(hb.cell (by dsimp only; omega)).trans d0, (hb.cell (by dsimp only; omega)).trans d1, ⟨(hb.cell (by dsimp only; omega)).trans d2, (hb.cell (by dsimp only; omega)).trans d3, (hb.cell (by dsimp only; omega)).trans d4, (hb.cell (by dsimp only; omega)).trans d5⟩,
    (hb.frozen (by dsimp only; omega)).trans g2, (hb.frozen (by dsimp only; omega)).trans g3, (hb.frozen (by dsimp only; omega)).trans g4, (hb.frozen (by dsimp only; omega)).trans g5⟩
theorem FindP.below {z o t B B' : Nat} {A A' : World} (h : FindP z o t B A) (hb : Below B' A A') (hB : B < B') : FindP z o t B A' := by
  obtain ⟨p0, p1, p2, p3⟩ := h
  exact ⟨(hb.cell (by dsimp only; omega)).trans p0, (hb.cell (by dsimp only; omega)).trans p1, (hb.cell (by dsimp only; omega)).trans p2, (hb.frozen (by dsimp only; omega)).trans p3⟩
theorem findI_own (v w : Nat) (W : World) (B : Nat) (h1 : W.heap.size ≤ B) : OwnFrom B (FindI v w W) :=
  OwnFrom.and (Own.from (fun s A B' row hs hg hr => ⟨hs.1, cell_kept hs.2.1 hg hr, cell_kept hs.2.2.1 hg hr, findR_kept hs.2.2.2.1 hg hr, findF_kept hs.2.2.2.1 hs.2.2.2.2 hg hr⟩) _) (ownFrom_below (Nat.le_refl _) h1)
theorem findX_own (v w : Nat) (W : World) (B : Nat) (h1 : W.heap.size ≤ B) : ∀ c, OwnFrom B (FindX v w W c) := fun c =>
  OwnFrom.and (Own.from (fun s A B' row hs hg hr => hs.elim (fun h => .inl ⟨h.1, findR_kept h.2 hg hr⟩) (fun h => .inr ⟨h.1, h.2.1, findR_kept h.2.2.1 hg hr, findF_kept h.2.2.1 h.2.2.2 hg hr⟩)) _) (ownFrom_below (Nat.le_refl _) h1)
set_option maxRecDepth 100000 in
set_option maxHeartbeats 4000000 in
theorem find_in (v w : Nat) (hv : v < 2 ^ w) (hw : w = 32 ∨ w = 64) (W : World) :
    CallsIn Fence.wide 4 Tryz.prog 170 #[.int .u64 v, .int .i64 w] W (Ret (findT (patV v w) (patE v w)) W) := by
  have e1 : widB w = true := by simp [widB]; omega
  refine callsIn_of_wp_marks Tryz.func170 rfl trivial ?_ rfl
  simp only [Tryz.ntmps170, List.size_toArray, List.length_cons, List.length_nil, Nat.reduceAdd, Nat.reduceSub, Array.replicate_succ, Array.replicate_zero, List.push_toArray, List.append_toArray, List.nil_append, List.cons_append]
  have c0 : ((((W.alloc (Obj.cells #[Value.int IntKind.u64 v] 89)).alloc (Obj.cells #[Value.int IntKind.i64 w] 3)).alloc (Obj.cells #[Value.int IntKind.i64 0, Value.int IntKind.i64 0, Value.int IntKind.i64 0] 150)).alloc (Obj.cells #[Value.int IntKind.i64 0] 25)).cell? ⟨W.heap.size, 0, none⟩ = some (.int .u64 v) := by simp [go_sem]
  have c1 : ((((W.alloc (Obj.cells #[Value.int IntKind.u64 v] 89)).alloc (Obj.cells #[Value.int IntKind.i64 w] 3)).alloc (Obj.cells #[Value.int IntKind.i64 0, Value.int IntKind.i64 0, Value.int IntKind.i64 0] 150)).alloc (Obj.cells #[Value.int IntKind.i64 0] 25)).cell? ⟨W.heap.size + 1, 0, none⟩ = some (.int .i64 w) := by simp [go_sem]
  have c2 : ((((W.alloc (Obj.cells #[Value.int IntKind.u64 v] 89)).alloc (Obj.cells #[Value.int IntKind.i64 w] 3)).alloc (Obj.cells #[Value.int IntKind.i64 0, Value.int IntKind.i64 0, Value.int IntKind.i64 0] 150)).alloc (Obj.cells #[Value.int IntKind.i64 0] 25)).cell? ⟨W.heap.size + 1 + 1, 0, none⟩ = some (.int .i64 0) := by simp [go_sem]
  have c3 : ((((W.alloc (Obj.cells #[Value.int IntKind.u64 v] 89)).alloc (Obj.cells #[Value.int IntKind.i64 w] 3)).alloc (Obj.cells #[Value.int IntKind.i64 0, Value.int IntKind.i64 0, Value.int IntKind.i64 0] 150)).alloc (Obj.cells #[Value.int IntKind.i64 0] 25)).cell? ⟨W.heap.size + 1 + 1, 1, none⟩ = some (.int .i64 0) := by simp [go_sem]
  have c4 : ((((W.alloc (Obj.cells #[Value.int IntKind.u64 v] 89)).alloc (Obj.cells #[Value.int IntKind.i64 w] 3)).alloc (Obj.cells #[Value.int IntKind.i64 0, Value.int IntKind.i64 0, Value.int IntKind.i64 0] 150)).alloc (Obj.cells #[Value.int IntKind.i64 0] 25)).cell? ⟨W.heap.size + 1 + 1, 2, none⟩ = some (.int .i64 0) := by simp [go_sem]
  have c5 : ((((W.alloc (Obj.cells #[Value.int IntKind.u64 v] 89)).alloc (Obj.cells #[Value.int IntKind.i64 w] 3)).alloc (Obj.cells #[Value.int IntKind.i64 0, Value.int IntKind.i64 0, Value.int IntKind.i64 0] 150)).alloc (Obj.cells #[Value.int IntKind.i64 0] 25)).cell? ⟨W.heap.size + 1 + 1 + 1, 0, none⟩ = some (.int .i64 0) := by simp [go_sem]
  have f2 : ((((W.alloc (Obj.cells #[Value.int IntKind.u64 v] 89)).alloc (Obj.cells #[Value.int IntKind.i64 w] 3)).alloc (Obj.cells #[Value.int IntKind.i64 0, Value.int IntKind.i64 0, Value.int IntKind.i64 0] 150)).alloc (Obj.cells #[Value.int IntKind.i64 0] 25)).frozen? ⟨W.heap.size + 1 + 1, 0, none⟩ = false := by simp [go_sem]
  have f3 : ((((W.alloc (Obj.cells #[Value.int IntKind.u64 v] 89)).alloc (Obj.cells #[Value.int IntKind.i64 w] 3)).alloc (Obj.cells #[Value.int IntKind.i64 0, Value.int IntKind.i64 0, Value.int IntKind.i64 0] 150)).alloc (Obj.cells #[Value.int IntKind.i64 0] 25)).frozen? ⟨W.heap.size + 1 + 1, 1, none⟩ = false := by simp [go_sem]
  have f4 : ((((W.alloc (Obj.cells #[Value.int IntKind.u64 v] 89)).alloc (Obj.cells #[Value.int IntKind.i64 w] 3)).alloc (Obj.cells #[Value.int IntKind.i64 0, Value.int IntKind.i64 0, Value.int IntKind.i64 0] 150)).alloc (Obj.cells #[Value.int IntKind.i64 0] 25)).frozen? ⟨W.heap.size + 1 + 1, 2, none⟩ = false := by simp [go_sem]
  have f5 : ((((W.alloc (Obj.cells #[Value.int IntKind.u64 v] 89)).alloc (Obj.cells #[Value.int IntKind.i64 w] 3)).alloc (Obj.cells #[Value.int IntKind.i64 0, Value.int IntKind.i64 0, Value.int IntKind.i64 0] 150)).alloc (Obj.cells #[Value.int IntKind.i64 0] 25)).frozen? ⟨W.heap.size + 1 + 1 + 1, 0, none⟩ = false := by simp [go_sem]
  have z4 : ((((W.alloc (Obj.cells #[Value.int IntKind.u64 v] 89)).alloc (Obj.cells #[Value.int IntKind.i64 w] 3)).alloc (Obj.cells #[Value.int IntKind.i64 0, Value.int IntKind.i64 0, Value.int IntKind.i64 0] 150)).alloc (Obj.cells #[Value.int IntKind.i64 0] 25)).heap.size = W.heap.size + 4 := by simp
  have hB4 : Below W.heap.size W ((((W.alloc (Obj.cells #[Value.int IntKind.u64 v] 89)).alloc (Obj.cells #[Value.int IntKind.i64 w] 3)).alloc (Obj.cells #[Value.int IntKind.i64 0, Value.int IntKind.i64 0, Value.int IntKind.i64 0] 150)).alloc (Obj.cells #[Value.int IntKind.i64 0] 25)) := by go_grown
  gi_wp2
  refine wpIn_scope_wide ?_
  generalize ((((W.alloc (Obj.cells #[Value.int IntKind.u64 v] 89)).alloc (Obj.cells #[Value.int IntKind.i64 w] 3)).alloc (Obj.cells #[Value.int IntKind.i64 0, Value.int IntKind.i64 0, Value.int IntKind.i64 0] 150)).alloc (Obj.cells #[Value.int IntKind.i64 0] 25)) = W4 at *
  gi_wp2

  gi_at_call 147
  refine (callsIn_wide.2 (width_any _ _)).mono ?_
  rintro e wA ⟨rfl, hbA⟩
  rw [e1]
  have d0 := ((bcell hbA).1 _ _ (by omega)).trans c0
  have d1 := ((bcell hbA).1 _ _ (by omega)).trans c1
  have d2 := ((bcell hbA).1 _ _ (by omega)).trans c2
  have d3 := ((bcell hbA).1 _ _ (by omega)).trans c3
  have d4 := ((bcell hbA).1 _ _ (by omega)).trans c4
  have d5 := ((bcell hbA).1 _ _ (by omega)).trans c5
  have g2 := ((bcell hbA).2 _ _ (by omega)).trans f2
  have g3 := ((bcell hbA).2 _ _ (by omega)).trans f3
  have g4 := ((bcell hbA).2 _ _ (by omega)).trans f4
  have g5 := ((bcell hbA).2 _ _ (by omega)).trans f5
  have zA := Nat.le_trans (Nat.le_of_eq z4.symm) hbA.size
  have hBA := bthen hB4 hbA hB4.size
  clear hbA hB4 z4 c0 c1 c2 c3 c4 c5 f2 f3 f4 f5
  have hcs : (((w : Int) == 32) = false) ∨ ((((w : Int) == 32) = true) ∧ decide (4294967296 ≤ (v : Int)) = false) := by
    rcases hw with rfl | rfl
    · right
      have : (2 : Nat) ^ 32 = 4294967296 := by decide
      exact ⟨rfl, decide_eq_false (by omega)⟩
    · left; rfl
  have hx : ∀ x : SzX w, ∃ z : Nat, x.1 = (z : Int) ∧ Sz z ∧ z ≤ w := fun x => by
    obtain ⟨x, hx, hw⟩ := x
    refine ⟨x.toNat, ?_, ?_, ?_⟩
    · unfold Sz1 at hx; show x = ((x.toNat : Nat) : Int); omega
    · unfold Sz1 at hx; unfold Sz; omega
    · omega
  replace hx := Lib.hid hx
  rcases hcs with s1 | ⟨s1, s2⟩
  · gi_wp2
    refine wpIn_label ?_
    gi_wp2_with (gi_at_call 173; refine (sizes_in _ _ trivial rfl _ _).mono ?_; rintro e w' ⟨rfl, rfl⟩)
    have zB : (wA.alloc (.cells #[.int .i64 w] 3)).heap.size = wA.heap.size + 1 := by simp
    have i0 : (wA.alloc (.cells #[.int .i64 w] 3)).cell? ⟨wA.heap.size, 0, none⟩ = some (.int .i64 w) := by simp [go_sem]
    replace d0 := cell_up (.cells #[.int .i64 w] 3) d0
    replace d1 := cell_up (.cells #[.int .i64 w] 3) d1
    replace g2 := frozen_up (.cells #[.int .i64 w] 3) d2 g2
    replace d2 := cell_up (.cells #[.int .i64 w] 3) d2
    replace g3 := frozen_up (.cells #[.int .i64 w] 3) d3 g3
    replace d3 := cell_up (.cells #[.int .i64 w] 3) d3
    replace g4 := frozen_up (.cells #[.int .i64 w] 3) d4 g4
    replace d4 := cell_up (.cells #[.int .i64 w] 3) d4
    replace g5 := frozen_up (.cells #[.int .i64 w] 3) d5 g5
    replace d5 := cell_up (.cells #[.int .i64 w] 3) d5
    replace hBA := hBA.alloc hBA.size (.cells #[.int .i64 w] 3)
    refine wpIn_rangeFunc_ownF rfl (by decide) (gf := 175) (lb := #[.pointer (some ⟨wA.heap.size, 0, none⟩)]) rfl trivial (enters_of Tryz.func175 (by kernel_rfl) rfl)
      (sizes_stops Fence.wide 3 trivial rfl (by decide) wA.heap.size (wA.heap.size + 1) w (by omega) (wA.alloc (.cells #[.int .i64 w] 3)) (by omega) (by omega) i0) belowK_t (belowK_b (by omega)) (Below.refl _ _) (fun _ => rfl)
      (FindI v w W) (FindX v w W) (findI_own v w W _ (by omega)) (findX_own v w W _ (by omega))
      ⟨⟨fun y hy => (by simp at hy), d0, d1, ⟨d2, d3, d4, d5⟩, g2, g3, g4, g5⟩, hBA⟩
      (fun x => { tmps := #[.int .u64 v, .int .i64 w, .pointer (some ⟨W.heap.size, 0, none⟩), .pointer (some ⟨W.heap.size + 1, 0, none⟩), .pointer (some ⟨W.heap.size + 1 + 1, 0, none⟩), .pointer (some ⟨W.heap.size + 1 + 1 + 1, 0, none⟩), .int .i64 x.1, undef, undef, undef, undef, .int .i64 w, .bool true, .bool false, undef, .int .i64 w, .bool false, .bool false, undef, undef, .bool false, undef, .int .i64 w, .func (.func 175) #[] #[.pointer (some ⟨wA.heap.size, 0, none⟩)], .int .i64 x.1, undef, undef, undef, undef, undef, undef, undef, undef, undef, undef, undef, undef, undef, undef, undef, undef, undef, undef, undef, undef, undef, undef, undef, undef, undef, undef, undef, undef, undef, undef, undef, undef, undef, undef, undef, undef, undef, undef, undef, undef, undef, undef, undef, undef, undef], defers := [] }) ?assign64 ?body64 ?done64 ?stop64
    case assign64 =>
      intro l x W K hK
      dsimp only [szEnc]
      gi_wp2
      exact hK
    case body64 =>
      clear d0 d1 d2 d3 d4 d5 g2 g3 g4 g5 hBA i0 zB
      rintro l pre x W1 ⟨⟨hpre, d0, d1, ⟨d2, d3, d4, d5⟩, g2, g3, g4, g5⟩, hB⟩ hlen
      obtain ⟨z, hz, hz2, hzw⟩ := hx.out x
      replace hpre := Lib.hid hpre
      have hz64 : z ≤ 64 := by omega
      have hv0 : v < 18446744073709551616 := lt64 hv (by omega)
      have hz0 : 2 ≤ z := by unfold Sz at hz2; omega
      have m1 := mask_fact z hz2
      have m2 := low_fact v z hv0 hz64
      have hdw := sz_dvd hz2 hw hzw
      have HM := Lib.hid (fun a => part_fact v a z hv0 hz64)
      obtain ⟨el, hel⟩ : ∃ el, v % 2 ^ z = el := ⟨_, rfl⟩
      obtain ⟨pa, hpa⟩ : ∃ pa : Nat → Nat, ∀ a, v / 2 ^ a % 2 ^ z = pa a := ⟨_, fun _ => rfl⟩
      rw [hel] at m2
      have HM : Hid (∀ a, bits BinOp.and IntKind.u64 ((v : Int) / 2 ^ a) ((2 ^ z - 1 : Nat) : Int) = (pa a : Int)) := Lib.hid (fun a => by rw [← hpa a]; exact HM.out a)
      generalize hmk : 2 ^ z - 1 = mk at *
      have hpaz : ∀ a, z ∣ a → a < z → pa a = el := fun b h1 h2 => by
        obtain ⟨k, rfl⟩ := h1
        rcases k with _ | k
        · rw [← hpa, ← hel]; simp
        · rw [Nat.mul_succ] at h2; omega
      replace hpaz := Lib.hid hpaz
      replace hpa := Lib.hid hpa
      replace hel := Lib.hid hel
      clear hmk
      dsimp only
      rw [hz]
      gi_wp2
      gi_loop [9] (fun s => ∃ a : Nat, s = .int .i64 a ∧ z ∣ a ∧ a ≤ w ∧ Hid (∀ b, z ∣ b → b < a → pa b = el)) (fun s => (w - intOf s).toNat)
      case atStart => exact ⟨z, rfl, Nat.dvd_refl _, hzw, hpaz⟩
      case round =>
        obtain ⟨a, rfl, ha, haw, hal⟩ := hrel
        by_cases hlt : a < w
        · have m3 := HM.out a
          have hle : a + z ≤ w := by
            obtain ⟨p, rfl⟩ := ha
            obtain ⟨q, rfl⟩ := hdw
            have : p < q := Nat.lt_of_mul_lt_mul_left hlt
            have := Nat.mul_le_mul_left z this
            rw [Nat.mul_succ] at this
            exact this
          by_cases hne : pa a = el
          · rw [hne] at m3
            gi_wp2
            go_round
            case rel => exact ⟨a + z, by simp, Nat.dvd_add ha (Nat.dvd_refl _), hle, Lib.hid fun b h1 h2 => by
              by_cases h3 : b < a
              · exact hal.out b h1 h3
              · obtain ⟨p, rfl⟩ := ha
                obtain ⟨q, rfl⟩ := h1
                have h4 : q < p + 1 := Nat.lt_of_mul_lt_mul_left (a := z) (by rw [Nat.mul_succ]; exact h2)
                have h5 : p ≤ q := by
                  rcases Nat.lt_or_ge q p with h | h
                  · exact absurd (Nat.mul_lt_mul_of_pos_left h (by omega : 0 < z)) h3
                  · exact h
                obtain rfl : q = p := by omega
                exact hne⟩
            case measure => simp [intOf]; omega
          · have hag : ¬ Again v z w := fun h => hne (by rw [← hpa.out, ← hel.out]; exact h a ha hlt)
            have b1 : (((pa a : Nat) : Int) != (el : Int)) = true := by simp; omega
            generalize pa a = q at *
            gi_wp2
            refine ⟨KeepsOthers.refl _, Below.refl _ _, ⟨fun y hy => ?_, d0, d1, ⟨d2, d3, d4, d5⟩, g2, g3, g4, g5⟩, hB⟩
            rcases List.mem_append.1 hy with h | h
            · exact hpre.out y h
            · have : y = x := by simpa using h
              rw [this, hz]; exact hag
        · obtain rfl : w = a := by omega
          have hagain : Again v z w := fun b h1 h2 => by rw [hpa.out, hel.out]; exact hal.out b h1 h2
          replace hagain := Lib.hid hagain
          have hel64 : U64 el := by
            rw [← hel.out]
            have := Nat.mod_le v (2 ^ z)
            exact ⟨by omega, by omega⟩
          obtain ⟨o, ho⟩ : ∃ o : Nat, pcI el = (o : Int) := ⟨_, rfl⟩
          have hBn : W.heap.size + 3 < W1.heap.size := block_lt_of_cell d5
          gi_wp2_with (gi_at_call 174; refine (CallsIn.inRound l (callsIn_wide.2 (pop_same _ _ hel64))).mono ?_; rintro e w' ⟨rfl, rfl⟩; rw [ho])
          have k0 : (W1.alloc (Obj.cells #[Value.int IntKind.i64 z, Value.int IntKind.i64 o, Value.int IntKind.i64 0] 150)).cell? ⟨W1.heap.size, 0, none⟩ = some (.int .i64 z) := by simp [go_sem]
          have k1 : (W1.alloc (Obj.cells #[Value.int IntKind.i64 z, Value.int IntKind.i64 o, Value.int IntKind.i64 0] 150)).cell? ⟨W1.heap.size, 1, none⟩ = some (.int .i64 o) := by simp [go_sem]
          have k2 : (W1.alloc (Obj.cells #[Value.int IntKind.i64 z, Value.int IntKind.i64 o, Value.int IntKind.i64 0] 150)).cell? ⟨W1.heap.size, 2, none⟩ = some (.int .i64 ((0 : Nat) : Int)) := by simp [go_sem]
          have k3 : (W1.alloc (Obj.cells #[Value.int IntKind.i64 z, Value.int IntKind.i64 o, Value.int IntKind.i64 0] 150)).frozen? ⟨W1.heap.size, 2, none⟩ = false := by simp [go_sem]
          have k4 : W1.heap.size < (W1.alloc (Obj.cells #[Value.int IntKind.i64 z, Value.int IntKind.i64 o, Value.int IntKind.i64 0] 150)).heap.size := by simp
          gi_loopw [53] (fun _ wr => ∃ t : Nat, t ≤ z ∧ FindP z o t W1.heap.size wr ∧ Below W1.heap.size W1 wr ∧ W1.heap.size < wr.heap.size ∧ Hid (∀ t', t' < t → ¬ IsPat v w z o t')) (fun _ wr => turnOf W1.heap.size z wr)
          case atStart => exact ⟨0, Nat.zero_le _, ⟨k0, k1, k2, k3⟩, bnew _ _, k4, Lib.hid fun t' h => by omega⟩
          case round =>
            obtain ⟨t, htz, hrP, hbr, hsr, hno⟩ := hrel
            clear k0 k1 k2 k3 k4
            have hrW : FindW v w W wr := FindW.below (W := W) (A := W1) ⟨d0, d1, ⟨d2, d3, d4, d5⟩, g2, g3, g4, g5⟩ hbr hBn
            obtain ⟨p0, p1, p2, p3⟩ := id hrP
            obtain ⟨x0, x1, _, _⟩ := id hrW
            have hlW : W.heap.size < wr.heap.size := by omega
            have hlW1 : W.heap.size + 1 < wr.heap.size := by omega
            by_cases hlt : t < z
            · by_cases hmay : mayB z o t w = true
              · have hP : Pat z o t w := by
                  obtain ⟨q1, q2, q3, q4, q5, q6⟩ := (mayB_iff _ _ _ _).1 hmay
                  exact ⟨hz2, by omega, by omega, by omega, by omega⟩
                have hval := Lib.hid (lvalue_any z o t w hP hw)
                have hm := Lib.hid (may_any z o t w)
                rw [hmay] at hm
                by_cases hev : valN z o t w = v
                · rw [hev] at hval
                  gi_wp2
                  refine region_round rfl l (by kernel_rfl) (by kernel_rfl) (by kernel_rfl) ?_
                  repeat (gi_big_quiet_step (first | exact grIn (hm.out _) | exact grIn (hval.out _)))
                  refine wpQuietIn_nil ?_
                  intro w2 hw2
                  have hb2 := of_gr hw2
                  clear hw2
                  have hz2' := hb2.size
                  have hW2 := hrW.below hb2 (by omega)
                  have hpp := hrP.below hb2 hsr
                  obtain ⟨y0, y1, ⟨y2, y3, y4, y5⟩, h2, h3, h4, h5⟩ := id hW2
                  obtain ⟨q0, q1, q2, q3⟩ := id hpp
                  have hbr2 := hbr.trans (hb2.mono (by omega))
                  have hBw2 := hB.trans (hbr2.mono hB.size)
                  clear hb2
                  gi_wp2
                  refine ⟨?_, .inl ⟨rfl, ?_⟩, ?_⟩
                  · exact ((((others_of hbr2).trans (KeepsOthers.setCell _ _ _)).trans (KeepsOthers.setCell _ _ _)).trans (KeepsOthers.setCell _ _ _)).trans (KeepsOthers.setCell _ _ _)
                  · have e1 : patV v w = (z, o, t) := patV_is hw ⟨hP, hev⟩
                    have e2 : patE v w = 0 := if_pos ⟨(z, o, t), hP, hev⟩
                    rw [e1, e2]
                    exact findR_set (p := (0, 0, 0)) (q := (z, o, t)) ⟨y2, y3, y4, y5⟩
                  · go_grown
                · have b2 : (((valN z o t w : Nat) : Int) == (v : Int)) = false := beq_false_of_ne (by omega)
                  have hnp : ¬ IsPat v w z o t := fun h => hev h.2
                  generalize valN z o t w = vv at *
                  gi_wp2
                  refine region_round rfl l (by kernel_rfl) (by kernel_rfl) (by kernel_rfl) ?_
                  repeat (gi_big_quiet_step (first | exact grIn (hm.out _) | exact grIn (hval.out _)))
                  refine wpQuietIn_nil ?_
                  intro w2 hw2
                  have hb2 := of_gr hw2
                  clear hw2
                  have hz2' := hb2.size
                  have hW2 := hrW.below hb2 (by omega)
                  have hpp := hrP.below hb2 hsr
                  obtain ⟨y0, y1, ⟨y2, y3, y4, y5⟩, h2, h3, h4, h5⟩ := id hW2
                  obtain ⟨q0, q1, q2, q3⟩ := id hpp
                  have hbr2 := hbr.trans (hb2.mono (by omega))
                  have hBw2 := hB.trans (hbr2.mono hB.size)
                  clear hb2
                  gi_wp2
                  go_roundw
                  case rel => exact ⟨t + 1, by omega, findP_set hpp, hbr2.setCell (p := ⟨W1.heap.size, 2, none⟩) (Nat.le_refl _) _, by simp [World.setCell]; omega, Lib.hid fun t' h1 h2 => by
                    by_cases h3 : t' < t
                    · exact hno.out t' h3 h2
                    · obtain rfl : t' = t := by omega
                      exact hnp h2⟩
                  case measure =>
                    have e1 := turnOf_at (z := z) (findP_set (u := t + 1) hpp).2.2.1
                    have e2 := turnOf_at (z := z) hrP.2.2.1
                    simp only [e2]
                    simp at e1
                    rw [e1]; omega
              · have hmay0 : mayB z o t w = false := by simpa using hmay
                have hm := Lib.hid (may_any z o t w)
                rw [hmay0] at hm
                have hnp : ¬ IsPat v w z o t := fun h => by
                  obtain ⟨⟨q1, q2, q3, q4, q5⟩, _⟩ := h
                  exact hmay ((mayB_iff _ _ _ _).2 ⟨by omega, by omega, by omega, by omega, by omega, by omega⟩)
                gi_wp2
                refine region_round rfl l (by kernel_rfl) (by kernel_rfl) (by kernel_rfl) ?_
                repeat (gi_big_quiet_step (exact grIn (hm.out _)))
                refine wpQuietIn_nil ?_
                intro w2 hw2
                have hb2 := of_gr hw2
                clear hw2
                have hz2' := hb2.size
                have hW2 := hrW.below hb2 (by omega)
                have hpp := hrP.below hb2 hsr
                obtain ⟨y0, y1, ⟨y2, y3, y4, y5⟩, h2, h3, h4, h5⟩ := id hW2
                obtain ⟨q0, q1, q2, q3⟩ := id hpp
                have hbr2 := hbr.trans (hb2.mono (by omega))
                have hBw2 := hB.trans (hbr2.mono hB.size)
                clear hb2
                gi_wp2
                go_roundw
                case rel => exact ⟨t + 1, by omega, findP_set hpp, hbr2.setCell (p := ⟨W1.heap.size, 2, none⟩) (Nat.le_refl _) _, by simp [World.setCell]; omega, Lib.hid fun t' h1 h2 => by
                  by_cases h3 : t' < t
                  · exact hno.out t' h3 h2
                  · obtain rfl : t' = t := by omega
                    exact hnp h2⟩
                case measure =>
                  have e1 := turnOf_at (z := z) (findP_set (u := t + 1) hpp).2.2.1
                  have e2 := turnOf_at (z := z) hrP.2.2.1
                  simp only [e2]
                  simp at e1
                  rw [e1]; omega
            · obtain rfl : t = z := by omega
              gi_wp2
              refine ⟨others_of hbr, .inr ⟨rfl, ⟨pre, x, rfl, hpre.out, ?_, ?_⟩, hrW.2.2.1, hrW.2.2.2⟩, hB.trans (hbr.mono hB.size)⟩
              · rw [hz]; exact hagain.out
              · intro t' ht
                rw [hz] at ht
                have : pcI el = ((Pop.pc 64 (v % 2 ^ t) : Nat) : Int) := by rw [hel.out]; rfl
                obtain rfl : Pop.pc 64 (v % 2 ^ t) = o := by omega
                exact hno.out t' ht.1.2.2.2.2 ht
    case done64 =>
      rintro D ys W1 hD hS ⟨⟨hpre, _⟩, _⟩ hK
      exfalso
      have hm := List.contains_iff_mem.1 hS
      obtain ⟨y, hy, hyw⟩ := List.mem_map.1 hm
      refine hpre y hy ?_
      rw [hyw]
      exact again_all v w hv
    case stop64 =>
      rintro D c pre W1 hD hpre ⟨hX, hB⟩ hK
      have hKb := fun (W2 : World) (h : W2.heap[D]? = some (.deferred (some []))) => belowK_b (w := W) (Nat.le_refl _) W2 D (.deferred (some [])) (.deferred none) (by simp at hD; omega) h rfl rfl
      rcases hX with ⟨rfl, hR⟩ | ⟨rfl, hE, hR, hF⟩
      · gi_wp2
        rw [Exit.noGoto_ret]
        refine ⟨by simp, .inl ⟨_, _, rfl, run_takeDeferred hK, ?_⟩⟩
        have hR' := findR_kept hR (grownBy_putObj' _ D (.deferred none)) (fun r e => by cases e; exact ⟨_, hK, rfl⟩)
        obtain ⟨r0, r1, r2, r3⟩ := hR'
        exact ⟨findT (patV v w) (patE v w), by simp [results, Tryz.f170, go_sem, r0, r1, r2, r3, findT], rfl, hB.trans (hKb W1 hK)⟩
      · have hno : ¬ HasPat v w := by
          rintro ⟨⟨s, o, t⟩, h⟩
          obtain ⟨pre0, x, rfl, h1, h2, h3⟩ := hE
          obtain ⟨z, hz, hz2, hzw⟩ := hx.out x
          rw [hz] at h2 h3
          obtain ⟨rfl, ho⟩ := pat_size hw h hz2 hzw h2 (fun y hy hlt => by
            have hy1 : Sz1 (y : Int) := by unfold Sz at hy; unfold Sz1; omega
            obtain ⟨u, hu, huy⟩ := pre_all pre0 x hpre (y : Int) hy1 (by omega)
            have := h1 u hu
            rw [huy] at this
            exact this)
          refine h3 t ?_
          simp only [Int.toNat_natCast]
          rw [ho]
          exact h
        obtain ⟨r0, r1, r2, r3⟩ := id hR
        obtain ⟨s0, s1, s2, s3⟩ := id hF
        gi_wp2
        obtain ⟨W2, hW2⟩ : ∃ W2, ((((W1.setCell ⟨W.heap.size + 1 + 1, 0, none⟩ (.int .i64 ((0 : Nat) : Int))).setCell ⟨W.heap.size + 1 + 1, 1, none⟩ (.int .i64 ((0 : Nat) : Int))).setCell ⟨W.heap.size + 1 + 1, 2, none⟩ (.int .i64 ((0 : Nat) : Int))).setCell ⟨W.heap.size + 1 + 1 + 1, 0, none⟩ (.int .i64 20)) = W2 := ⟨_, rfl⟩
        have hR2 : FindR (0, 0, 0) 20 W W2 := by rw [← hW2]; exact findR_set (p := (0, 0, 0)) (q := (0, 0, 0)) ⟨r0, r1, r2, r3⟩
        have hB2 : Below W.heap.size W W2 := by rw [← hW2]; go_grown
        have hK2 : W2.heap[D]? = some (.deferred (some [])) := by
          rw [← hW2]
          exact (((((KeepsOthers.refl W1).trans (KeepsOthers.setCell _ _ _)).trans (KeepsOthers.setCell _ _ _)).trans (KeepsOthers.setCell _ _ _)).trans (KeepsOthers.setCell _ _ _)).same D _ hK rfl
        have e1 : patV v w = (0, 0, 0) := patV_no hno
        have e2 : patE v w = 20 := if_neg hno
        simp only [Int.natCast_zero] at hW2
        rw [hW2]
        refine ⟨by simp, .inl ⟨_, _, rfl, run_takeDeferred hK2, ?_⟩⟩
        have hR' := findR_kept hR2 (grownBy_putObj' _ D (.deferred none)) (fun r e => by cases e; exact ⟨_, hK2, rfl⟩)
        obtain ⟨r0, r1, r2, r3⟩ := hR'
        exact ⟨findT (0, 0, 0) 20, by simp [results, Tryz.f170, go_sem, r0, r1, r2, r3, findT], by rw [e1, e2], hB2.trans (hKb W2 hK2)⟩
  · gi_wp2
    refine wpIn_label ?_
    gi_wp2_with (gi_at_call 173; refine (sizes_in _ _ trivial rfl _ _).mono ?_; rintro e w' ⟨rfl, rfl⟩)
    have zB : (wA.alloc (.cells #[.int .i64 w] 3)).heap.size = wA.heap.size + 1 := by simp
    have i0 : (wA.alloc (.cells #[.int .i64 w] 3)).cell? ⟨wA.heap.size, 0, none⟩ = some (.int .i64 w) := by simp [go_sem]
    replace d0 := cell_up (.cells #[.int .i64 w] 3) d0
    replace d1 := cell_up (.cells #[.int .i64 w] 3) d1
    replace g2 := frozen_up (.cells #[.int .i64 w] 3) d2 g2
    replace d2 := cell_up (.cells #[.int .i64 w] 3) d2
    replace g3 := frozen_up (.cells #[.int .i64 w] 3) d3 g3
    replace d3 := cell_up (.cells #[.int .i64 w] 3) d3
    replace g4 := frozen_up (.cells #[.int .i64 w] 3) d4 g4
    replace d4 := cell_up (.cells #[.int .i64 w] 3) d4
    replace g5 := frozen_up (.cells #[.int .i64 w] 3) d5 g5
    replace d5 := cell_up (.cells #[.int .i64 w] 3) d5
    replace hBA := hBA.alloc hBA.size (.cells #[.int .i64 w] 3)
    refine wpIn_rangeFunc_ownF rfl (by decide) (gf := 175) (lb := #[.pointer (some ⟨wA.heap.size, 0, none⟩)]) rfl trivial (enters_of Tryz.func175 (by kernel_rfl) rfl)
      (sizes_stops Fence.wide 3 trivial rfl (by decide) wA.heap.size (wA.heap.size + 1) w (by omega) (wA.alloc (.cells #[.int .i64 w] 3)) (by omega) (by omega) i0) belowK_t (belowK_b (by omega)) (Below.refl _ _) (fun _ => rfl)
      (FindI v w W) (FindX v w W) (findI_own v w W _ (by omega)) (findX_own v w W _ (by omega))
      ⟨⟨fun y hy => (by simp at hy), d0, d1, ⟨d2, d3, d4, d5⟩, g2, g3, g4, g5⟩, hBA⟩
      (fun x => { tmps := #[.int .u64 v, .int .i64 w, .pointer (some ⟨W.heap.size, 0, none⟩), .pointer (some ⟨W.heap.size + 1, 0, none⟩), .pointer (some ⟨W.heap.size + 1 + 1, 0, none⟩), .pointer (some ⟨W.heap.size + 1 + 1 + 1, 0, none⟩), .int .i64 x.1, undef, undef, undef, undef, .int .i64 w, .bool true, .bool false, undef, .int .i64 w, .bool true, .bool true, .int .u64 v, .bool false, .bool false, undef, .int .i64 w, .func (.func 175) #[] #[.pointer (some ⟨wA.heap.size, 0, none⟩)], .int .i64 x.1, undef, undef, undef, undef, undef, undef, undef, undef, undef, undef, undef, undef, undef, undef, undef, undef, undef, undef, undef, undef, undef, undef, undef, undef, undef, undef, undef, undef, undef, undef, undef, undef, undef, undef, undef, undef, undef, undef, undef, undef, undef, undef, undef, undef, undef], defers := [] }) ?assign32 ?body32 ?done32 ?stop32
    case assign32 =>
      intro l x W K hK
      dsimp only [szEnc]
      gi_wp2
      exact hK
    case body32 =>
      clear d0 d1 d2 d3 d4 d5 g2 g3 g4 g5 hBA i0 zB
      rintro l pre x W1 ⟨⟨hpre, d0, d1, ⟨d2, d3, d4, d5⟩, g2, g3, g4, g5⟩, hB⟩ hlen
      obtain ⟨z, hz, hz2, hzw⟩ := hx.out x
      replace hpre := Lib.hid hpre
      have hz64 : z ≤ 64 := by omega
      have hv0 : v < 18446744073709551616 := lt64 hv (by omega)
      have hz0 : 2 ≤ z := by unfold Sz at hz2; omega
      have m1 := mask_fact z hz2
      have m2 := low_fact v z hv0 hz64
      have hdw := sz_dvd hz2 hw hzw
      have HM := Lib.hid (fun a => part_fact v a z hv0 hz64)
      obtain ⟨el, hel⟩ : ∃ el, v % 2 ^ z = el := ⟨_, rfl⟩
      obtain ⟨pa, hpa⟩ : ∃ pa : Nat → Nat, ∀ a, v / 2 ^ a % 2 ^ z = pa a := ⟨_, fun _ => rfl⟩
      rw [hel] at m2
      have HM : Hid (∀ a, bits BinOp.and IntKind.u64 ((v : Int) / 2 ^ a) ((2 ^ z - 1 : Nat) : Int) = (pa a : Int)) := Lib.hid (fun a => by rw [← hpa a]; exact HM.out a)
      generalize hmk : 2 ^ z - 1 = mk at *
      have hpaz : ∀ a, z ∣ a → a < z → pa a = el := fun b h1 h2 => by
        obtain ⟨k, rfl⟩ := h1
        rcases k with _ | k
        · rw [← hpa, ← hel]; simp
        · rw [Nat.mul_succ] at h2; omega
      replace hpaz := Lib.hid hpaz
      replace hpa := Lib.hid hpa
      replace hel := Lib.hid hel
      clear hmk
      dsimp only
      rw [hz]
      gi_wp2
      gi_loop [9] (fun s => ∃ a : Nat, s = .int .i64 a ∧ z ∣ a ∧ a ≤ w ∧ Hid (∀ b, z ∣ b → b < a → pa b = el)) (fun s => (w - intOf s).toNat)
      case atStart => exact ⟨z, rfl, Nat.dvd_refl _, hzw, hpaz⟩
      case round =>
        obtain ⟨a, rfl, ha, haw, hal⟩ := hrel
        by_cases hlt : a < w
        · have m3 := HM.out a
          have hle : a + z ≤ w := by
            obtain ⟨p, rfl⟩ := ha
            obtain ⟨q, rfl⟩ := hdw
            have : p < q := Nat.lt_of_mul_lt_mul_left hlt
            have := Nat.mul_le_mul_left z this
            rw [Nat.mul_succ] at this
            exact this
          by_cases hne : pa a = el
          · rw [hne] at m3
            gi_wp2
            go_round
            case rel => exact ⟨a + z, by simp, Nat.dvd_add ha (Nat.dvd_refl _), hle, Lib.hid fun b h1 h2 => by
              by_cases h3 : b < a
              · exact hal.out b h1 h3
              · obtain ⟨p, rfl⟩ := ha
                obtain ⟨q, rfl⟩ := h1
                have h4 : q < p + 1 := Nat.lt_of_mul_lt_mul_left (a := z) (by rw [Nat.mul_succ]; exact h2)
                have h5 : p ≤ q := by
                  rcases Nat.lt_or_ge q p with h | h
                  · exact absurd (Nat.mul_lt_mul_of_pos_left h (by omega : 0 < z)) h3
                  · exact h
                obtain rfl : q = p := by omega
                exact hne⟩
            case measure => simp [intOf]; omega
          · have hag : ¬ Again v z w := fun h => hne (by rw [← hpa.out, ← hel.out]; exact h a ha hlt)
            have b1 : (((pa a : Nat) : Int) != (el : Int)) = true := by simp; omega
            generalize pa a = q at *
            gi_wp2
            refine ⟨KeepsOthers.refl _, Below.refl _ _, ⟨fun y hy => ?_, d0, d1, ⟨d2, d3, d4, d5⟩, g2, g3, g4, g5⟩, hB⟩
            rcases List.mem_append.1 hy with h | h
            · exact hpre.out y h
            · have : y = x := by simpa using h
              rw [this, hz]; exact hag
        · obtain rfl : w = a := by omega
          have hagain : Again v z w := fun b h1 h2 => by rw [hpa.out, hel.out]; exact hal.out b h1 h2
          replace hagain := Lib.hid hagain
          have hel64 : U64 el := by
            rw [← hel.out]
            have := Nat.mod_le v (2 ^ z)
            exact ⟨by omega, by omega⟩
          obtain ⟨o, ho⟩ : ∃ o : Nat, pcI el = (o : Int) := ⟨_, rfl⟩
          have hBn : W.heap.size + 3 < W1.heap.size := block_lt_of_cell d5
          gi_wp2_with (gi_at_call 174; refine (CallsIn.inRound l (callsIn_wide.2 (pop_same _ _ hel64))).mono ?_; rintro e w' ⟨rfl, rfl⟩; rw [ho])
          have k0 : (W1.alloc (Obj.cells #[Value.int IntKind.i64 z, Value.int IntKind.i64 o, Value.int IntKind.i64 0] 150)).cell? ⟨W1.heap.size, 0, none⟩ = some (.int .i64 z) := by simp [go_sem]
          have k1 : (W1.alloc (Obj.cells #[Value.int IntKind.i64 z, Value.int IntKind.i64 o, Value.int IntKind.i64 0] 150)).cell? ⟨W1.heap.size, 1, none⟩ = some (.int .i64 o) := by simp [go_sem]
          have k2 : (W1.alloc (Obj.cells #[Value.int IntKind.i64 z, Value.int IntKind.i64 o, Value.int IntKind.i64 0] 150)).cell? ⟨W1.heap.size, 2, none⟩ = some (.int .i64 ((0 : Nat) : Int)) := by simp [go_sem]
          have k3 : (W1.alloc (Obj.cells #[Value.int IntKind.i64 z, Value.int IntKind.i64 o, Value.int IntKind.i64 0] 150)).frozen? ⟨W1.heap.size, 2, none⟩ = false := by simp [go_sem]
          have k4 : W1.heap.size < (W1.alloc (Obj.cells #[Value.int IntKind.i64 z, Value.int IntKind.i64 o, Value.int IntKind.i64 0] 150)).heap.size := by simp
          gi_loopw [53] (fun _ wr => ∃ t : Nat, t ≤ z ∧ FindP z o t W1.heap.size wr ∧ Below W1.heap.size W1 wr ∧ W1.heap.size < wr.heap.size ∧ Hid (∀ t', t' < t → ¬ IsPat v w z o t')) (fun _ wr => turnOf W1.heap.size z wr)
          case atStart => exact ⟨0, Nat.zero_le _, ⟨k0, k1, k2, k3⟩, bnew _ _, k4, Lib.hid fun t' h => by omega⟩
          case round =>
            obtain ⟨t, htz, hrP, hbr, hsr, hno⟩ := hrel
            clear k0 k1 k2 k3 k4
            have hrW : FindW v w W wr := FindW.below (W := W) (A := W1) ⟨d0, d1, ⟨d2, d3, d4, d5⟩, g2, g3, g4, g5⟩ hbr hBn
            obtain ⟨p0, p1, p2, p3⟩ := id hrP
            obtain ⟨x0, x1, _, _⟩ := id hrW
            have hlW : W.heap.size < wr.heap.size := by omega
            have hlW1 : W.heap.size + 1 < wr.heap.size := by omega
            by_cases hlt : t < z
            · by_cases hmay : mayB z o t w = true
              · have hP : Pat z o t w := by
                  obtain ⟨q1, q2, q3, q4, q5, q6⟩ := (mayB_iff _ _ _ _).1 hmay
                  exact ⟨hz2, by omega, by omega, by omega, by omega⟩
                have hval := Lib.hid (lvalue_any z o t w hP hw)
                have hm := Lib.hid (may_any z o t w)
                rw [hmay] at hm
                by_cases hev : valN z o t w = v
                · rw [hev] at hval
                  gi_wp2
                  refine region_round rfl l (by kernel_rfl) (by kernel_rfl) (by kernel_rfl) ?_
                  repeat (gi_big_quiet_step (first | exact grIn (hm.out _) | exact grIn (hval.out _)))
                  refine wpQuietIn_nil ?_
                  intro w2 hw2
                  have hb2 := of_gr hw2
                  clear hw2
                  have hz2' := hb2.size
                  have hW2 := hrW.below hb2 (by omega)
                  have hpp := hrP.below hb2 hsr
                  obtain ⟨y0, y1, ⟨y2, y3, y4, y5⟩, h2, h3, h4, h5⟩ := id hW2
                  obtain ⟨q0, q1, q2, q3⟩ := id hpp
                  have hbr2 := hbr.trans (hb2.mono (by omega))
                  have hBw2 := hB.trans (hbr2.mono hB.size)
                  clear hb2
                  gi_wp2
                  refine ⟨?_, .inl ⟨rfl, ?_⟩, ?_⟩
                  · exact ((((others_of hbr2).trans (KeepsOthers.setCell _ _ _)).trans (KeepsOthers.setCell _ _ _)).trans (KeepsOthers.setCell _ _ _)).trans (KeepsOthers.setCell _ _ _)
                  · have e1 : patV v w = (z, o, t) := patV_is hw ⟨hP, hev⟩
                    have e2 : patE v w = 0 := if_pos ⟨(z, o, t), hP, hev⟩
                    rw [e1, e2]
                    exact findR_set (p := (0, 0, 0)) (q := (z, o, t)) ⟨y2, y3, y4, y5⟩
                  · go_grown
                · have b2 : (((valN z o t w : Nat) : Int) == (v : Int)) = false := beq_false_of_ne (by omega)
                  have hnp : ¬ IsPat v w z o t := fun h => hev h.2
                  generalize valN z o t w = vv at *
                  gi_wp2
                  refine region_round rfl l (by kernel_rfl) (by kernel_rfl) (by kernel_rfl) ?_
                  repeat (gi_big_quiet_step (first | exact grIn (hm.out _) | exact grIn (hval.out _)))
                  refine wpQuietIn_nil ?_
                  intro w2 hw2
                  have hb2 := of_gr hw2
                  clear hw2
                  have hz2' := hb2.size
                  have hW2 := hrW.below hb2 (by omega)
                  have hpp := hrP.below hb2 hsr
                  obtain ⟨y0, y1, ⟨y2, y3, y4, y5⟩, h2, h3, h4, h5⟩ := id hW2
                  obtain ⟨q0, q1, q2, q3⟩ := id hpp
                  have hbr2 := hbr.trans (hb2.mono (by omega))
                  have hBw2 := hB.trans (hbr2.mono hB.size)
                  clear hb2
                  gi_wp2
                  go_roundw
                  case rel => exact ⟨t + 1, by omega, findP_set hpp, hbr2.setCell (p := ⟨W1.heap.size, 2, none⟩) (Nat.le_refl _) _, by simp [World.setCell]; omega, Lib.hid fun t' h1 h2 => by
                    by_cases h3 : t' < t
                    · exact hno.out t' h3 h2
                    · obtain rfl : t' = t := by omega
                      exact hnp h2⟩
                  case measure =>
                    have e1 := turnOf_at (z := z) (findP_set (u := t + 1) hpp).2.2.1
                    have e2 := turnOf_at (z := z) hrP.2.2.1
                    simp only [e2]
                    simp at e1
                    rw [e1]; omega
              · have hmay0 : mayB z o t w = false := by simpa using hmay
                have hm := Lib.hid (may_any z o t w)
                rw [hmay0] at hm
                have hnp : ¬ IsPat v w z o t := fun h => by
                  obtain ⟨⟨q1, q2, q3, q4, q5⟩, _⟩ := h
                  exact hmay ((mayB_iff _ _ _ _).2 ⟨by omega, by omega, by omega, by omega, by omega, by omega⟩)
                gi_wp2
                refine region_round rfl l (by kernel_rfl) (by kernel_rfl) (by kernel_rfl) ?_
                repeat (gi_big_quiet_step (exact grIn (hm.out _)))
                refine wpQuietIn_nil ?_
                intro w2 hw2
                have hb2 := of_gr hw2
                clear hw2
                have hz2' := hb2.size
                have hW2 := hrW.below hb2 (by omega)
                have hpp := hrP.below hb2 hsr
                obtain ⟨y0, y1, ⟨y2, y3, y4, y5⟩, h2, h3, h4, h5⟩ := id hW2
                obtain ⟨q0, q1, q2, q3⟩ := id hpp
                have hbr2 := hbr.trans (hb2.mono (by omega))
                have hBw2 := hB.trans (hbr2.mono hB.size)
                clear hb2
                gi_wp2
                go_roundw
                case rel => exact ⟨t + 1, by omega, findP_set hpp, hbr2.setCell (p := ⟨W1.heap.size, 2, none⟩) (Nat.le_refl _) _, by simp [World.setCell]; omega, Lib.hid fun t' h1 h2 => by
                  by_cases h3 : t' < t
                  · exact hno.out t' h3 h2
                  · obtain rfl : t' = t := by omega
                    exact hnp h2⟩
                case measure =>
                  have e1 := turnOf_at (z := z) (findP_set (u := t + 1) hpp).2.2.1
                  have e2 := turnOf_at (z := z) hrP.2.2.1
                  simp only [e2]
                  simp at e1
                  rw [e1]; omega
            · obtain rfl : t = z := by omega
              gi_wp2
              refine ⟨others_of hbr, .inr ⟨rfl, ⟨pre, x, rfl, hpre.out, ?_, ?_⟩, hrW.2.2.1, hrW.2.2.2⟩, hB.trans (hbr.mono hB.size)⟩
              · rw [hz]; exact hagain.out
              · intro t' ht
                rw [hz] at ht
                have : pcI el = ((Pop.pc 64 (v % 2 ^ t) : Nat) : Int) := by rw [hel.out]; rfl
                obtain rfl : Pop.pc 64 (v % 2 ^ t) = o := by omega
                exact hno.out t' ht.1.2.2.2.2 ht
    case done32 =>
      rintro D ys W1 hD hS ⟨⟨hpre, _⟩, _⟩ hK
      exfalso
      have hm := List.contains_iff_mem.1 hS
      obtain ⟨y, hy, hyw⟩ := List.mem_map.1 hm
      refine hpre y hy ?_
      rw [hyw]
      exact again_all v w hv
    case stop32 =>
      rintro D c pre W1 hD hpre ⟨hX, hB⟩ hK
      have hKb := fun (W2 : World) (h : W2.heap[D]? = some (.deferred (some []))) => belowK_b (w := W) (Nat.le_refl _) W2 D (.deferred (some [])) (.deferred none) (by simp at hD; omega) h rfl rfl
      rcases hX with ⟨rfl, hR⟩ | ⟨rfl, hE, hR, hF⟩
      · gi_wp2
        rw [Exit.noGoto_ret]
        refine ⟨by simp, .inl ⟨_, _, rfl, run_takeDeferred hK, ?_⟩⟩
        have hR' := findR_kept hR (grownBy_putObj' _ D (.deferred none)) (fun r e => by cases e; exact ⟨_, hK, rfl⟩)
        obtain ⟨r0, r1, r2, r3⟩ := hR'
        exact ⟨findT (patV v w) (patE v w), by simp [results, Tryz.f170, go_sem, r0, r1, r2, r3, findT], rfl, hB.trans (hKb W1 hK)⟩
      · have hno : ¬ HasPat v w := by
          rintro ⟨⟨s, o, t⟩, h⟩
          obtain ⟨pre0, x, rfl, h1, h2, h3⟩ := hE
          obtain ⟨z, hz, hz2, hzw⟩ := hx.out x
          rw [hz] at h2 h3
          obtain ⟨rfl, ho⟩ := pat_size hw h hz2 hzw h2 (fun y hy hlt => by
            have hy1 : Sz1 (y : Int) := by unfold Sz at hy; unfold Sz1; omega
            obtain ⟨u, hu, huy⟩ := pre_all pre0 x hpre (y : Int) hy1 (by omega)
            have := h1 u hu
            rw [huy] at this
            exact this)
          refine h3 t ?_
          simp only [Int.toNat_natCast]
          rw [ho]
          exact h
        obtain ⟨r0, r1, r2, r3⟩ := id hR
        obtain ⟨s0, s1, s2, s3⟩ := id hF
        gi_wp2
        obtain ⟨W2, hW2⟩ : ∃ W2, ((((W1.setCell ⟨W.heap.size + 1 + 1, 0, none⟩ (.int .i64 ((0 : Nat) : Int))).setCell ⟨W.heap.size + 1 + 1, 1, none⟩ (.int .i64 ((0 : Nat) : Int))).setCell ⟨W.heap.size + 1 + 1, 2, none⟩ (.int .i64 ((0 : Nat) : Int))).setCell ⟨W.heap.size + 1 + 1 + 1, 0, none⟩ (.int .i64 20)) = W2 := ⟨_, rfl⟩
        have hR2 : FindR (0, 0, 0) 20 W W2 := by rw [← hW2]; exact findR_set (p := (0, 0, 0)) (q := (0, 0, 0)) ⟨r0, r1, r2, r3⟩
        have hB2 : Below W.heap.size W W2 := by rw [← hW2]; go_grown
        have hK2 : W2.heap[D]? = some (.deferred (some [])) := by
          rw [← hW2]
          exact (((((KeepsOthers.refl W1).trans (KeepsOthers.setCell _ _ _)).trans (KeepsOthers.setCell _ _ _)).trans (KeepsOthers.setCell _ _ _)).trans (KeepsOthers.setCell _ _ _)).same D _ hK rfl
        have e1 : patV v w = (0, 0, 0) := patV_no hno
        have e2 : patE v w = 20 := if_neg hno
        simp only [Int.natCast_zero] at hW2
        rw [hW2]
        refine ⟨by simp, .inl ⟨_, _, rfl, run_takeDeferred hK2, ?_⟩⟩
        have hR' := findR_kept hR2 (grownBy_putObj' _ D (.deferred none)) (fun r e => by cases e; exact ⟨_, hK2, rfl⟩)
        obtain ⟨r0, r1, r2, r3⟩ := hR'
        exact ⟨findT (0, 0, 0) 20, by simp [results, Tryz.f170, go_sem, r0, r1, r2, r3, findT], by rw [e1, e2], hB2.trans (hKb W2 hK2)⟩
end Go.Proofs.YtopfaapcekiojaaGreat
