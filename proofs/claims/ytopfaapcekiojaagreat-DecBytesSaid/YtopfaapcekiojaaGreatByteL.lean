/- The words of bytes: the reference's Words. -/
import Derived.Test.YtopfaapcekiojaaGreatByteM
import Derived.Laws.OwnMore
import Derived.Handy
import Derived.RegionTactic
import Derived.BigRegion
import Derived.Deep.RegionHeldLaw
import Derived.Maps.AppendAt
import Derived.OwnWalk
namespace Go.Proofs.YtopfaapcekiojaaGreat
open Go.RowKit Go.Sort Go.Shelf Go.Joins Sym Two
attribute [local go_sem] cell_gr frozen_gr
set_option linter.unusedVariables false

/-- the first k words -/
def wdsK (l : List Int) (k : Nat) : List Value := (List.range k).map fun j => .int .u32 (wdOf l j)
theorem wdsK_succ (l : List Int) (k : Nat) : wdsK l (k + 1) = wdsK l k ++ [.int .u32 (wdOf l k)] := by simp [wdsK, List.range_succ]
theorem wdsK_len (l : List Int) (k : Nat) : (wdsK l k).length = k := by simp [wdsK]
theorem u32Info : (Tryz.prog.info? 22).map (fun i => (i.zero, i.size, i.bytes)) = some (some (.int .u32 0), 1, 4) := by kernel_rfl
def WdsGot (l : List Int) (k : Nat) (w : World) (e : Ending) (w' : World) : Prop := ∃ v, e = .returned v ∧ w'.ownsRow w.heap.size 22 1 v k (wdsK l k) ∧ Below w.heap.size w w'

theorem u32_wrap (x : Int) (h1 : 0 ≤ x) (h2 : x < 4294967296) : IntKind.u32.wrap x = x := by rw [IntKind.wrap_u32']; omega
theorem i64_wrap (x : Int) (h1 : 0 ≤ x) (h2 : x < 9223372036854775808) : IntKind.i64.wrap x = x := by
  have hk : ∀ x : Int, 0 ≤ x → x < 2 ^ 63 → IntKind.i64.wrap x = x := fun x a b => by
    rw [show (2 : Int) ^ 63 = 9223372036854775808 by decide] at b
    rw [IntKind.wrap_i64]; omega
  exact hk x h1 h2
theorem or_all (c0 c1 c2 c3 : Int) (a0 : 0 ≤ c0) (b0 : c0 < 256) (a1 : 0 ≤ c1) (b1 : c1 < 256) (a2 : 0 ≤ c2) (b2 : c2 < 256) (a3 : 0 ≤ c3) (b3 : c3 < 256) :
    bits BinOp.or IntKind.u32 (bits BinOp.or IntKind.u32 (bits BinOp.or IntKind.u32 (IntKind.u32.wrap c0) (IntKind.u32.wrap (IntKind.u32.wrap c1 * 256))) (IntKind.u32.wrap (IntKind.u32.wrap c2 * 65536))) (IntKind.u32.wrap (IntKind.u32.wrap c3 * 16777216)) = c0 + c1 * 256 + c2 * 65536 + c3 * 16777216 := by
  rw [u32_wrap c0 a0 (by omega), u32_wrap c1 a1 (by omega), u32_wrap c2 a2 (by omega), u32_wrap c3 a3 (by omega), u32_wrap (c1 * 256) (by omega) (by omega), u32_wrap (c2 * 65536) (by omega) (by omega), u32_wrap (c3 * 16777216) (by omega) (by omega)]
  have e1 := or_shift c0 c1 8 a0 (by omega) a1 b1 (by omega)
  have e2 := or_shift (c0 + c1 * 256) c2 16 (by omega) (by omega) a2 b2 (by omega)
  have e3 := or_shift (c0 + c1 * 256 + c2 * 65536) c3 24 (by omega) (by omega) a3 b3 (by omega)
  rw [show (2 : Int) ^ 8 = 256 from rfl] at e1
  rw [show (2 : Int) ^ 16 = 65536 from rfl] at e2
  rw [show (2 : Int) ^ 24 = 16777216 from rfl] at e3
  rw [e1, e2, e3]
theorem one_news (w : World) (x : Value) (t : TypeId) : ∀ j u, [x][j]? = some u → ((w.alloc (.cells #[x] t)).drew).cell? ((⟨w.heap.size, 0, none⟩ : Addr).add j) = some u := cell_one_new w x t
theorem le_drew (w : World) (o : Obj) (b : Nat) (h : b ≤ w.heap.size) : b ≤ ((w.alloc o).drew).heap.size := by
  show b ≤ (w.alloc o).heap.size
  rw [World.size_alloc]; omega
theorem one_int (k : IntKind) (n : Int) : ∀ u ∈ [Value.int k n], u.oneCell' = true := fun u hu => by
  simp only [List.mem_cons, List.not_mem_nil, or_false] at hu
  subst hu; rfl
/-- append to a row of its own, as a step of a region that draws its order -/
theorem step_append_own {P : Program} {ops : Array Oper} {o : Oper} {a : Act} {w : World} {K : Act → World → Prop} {Q : Exit → Act → World → Prop} {E : Prop}
    (hg : o.guard = none) (s x : Operand) (t : TypeId) (hop : o.op = Op.call { callee := Callee.builtin Builtin.append, args := #[s, x], argTypes := #[t, t] })
    (base : Nat) (e : TypeId) (i : TypeInfo) (z : Value) (size bytes : Nat) (h1 : P.underlying t = some (.slice e)) (h2 : P.info? e = some i) (h3 : i.zero = some z) (h4 : i.size = size) (h5 : i.bytes = bytes) (h6 : z.cells.size = size) (h7 : 0 < size)
    (v : Value) (n : Nat) (xs : List Value) (hs : a.eval s = v) (hown : w.ownsRow base e size v n xs)
    (ad : Addr) (m c : Nat) (news : List Value) (hx : a.eval x = .slice (some ad) m c) (hn : news.length = m * size) (hc : ∀ j u, news[j]? = some u → w.cell? (ad.add j) = some u) (h1c : ∀ u ∈ news, u.oneCell' = true)
    (b1 : n + m ≤ maxLen) (b2 : (n + m) * bytes ≤ 140737488355328) (hb : base ≤ w.heap.size)
    (hK : ∀ v' w', w'.ownsRow base e size v' (n + m) (xs ++ news) → w.grownBy w' v.ownBlock → K (a.put o.dst v') w') :
    if Region.wanted o (yielded ops a.tmps) = true then Oper.wp P o a w K Q else E := by
  have hw : Region.wanted o (yielded ops a.tmps) = true := by simp [Region.wanted, hg]
  rw [if_pos hw]
  obtain ⟨v', w', hrun, r1, r2, _⟩ := run_append_own (P := P) w base t o.type e i z size bytes h1 h2 h3 h4 h5 h6 h7 v n xs hown ad m c news hn hc h1c b1 b2 hb
  unfold Oper.wp
  simp [execOp, hop, resolve, invoke, builtin, hs, hx, hrun, Result.andThen]
  exact hK v' w' r1 r2

theorem far_cell {W W' : World} {base size n : Nat} {e : TypeId} {v : Value} {xs : List Value} (h : W.ownsRow base e size v n xs) (hg : W.grownBy W' v.ownBlock) {b o : Nat} (hb : b < base) (hb2 : b < W.heap.size) : W'.cell? ⟨b, o, none⟩ = W.cell? ⟨b, o, none⟩ := by
  have hne : v.ownBlock ≠ some b := by
    rcases h.2 with ⟨rfl, _⟩ | ⟨g, cap, cur, rfl, hbg, _⟩
    · intro h; cases h
    · intro h
      have : g = b := by simpa [Value.ownBlock] using h
      omega
  obtain ⟨_, _, _, _, hbl⟩ := hg
  have := hbl b hb2 (Ne.symm hne)
  simp only [World.cell?, this]
theorem below_grown {W W' : World} {base size n : Nat} {e : TypeId} {v : Value} {xs : List Value} (h : W.ownsRow base e size v n xs) (hg : W.grownBy W' v.ownBlock) (hb : base ≤ W.heap.size) : Below base W W' := by
  obtain ⟨h1, h2, h3, h4, hbl⟩ := hg
  refine ⟨h1, h2, h3, h4, fun b hb2 => hbl b (by omega) ?_⟩
  rcases h.2 with ⟨rfl, _⟩ | ⟨g, cap, cur, rfl, hbg, _⟩
  · intro h; cases h
  · intro h
    have : b = g := by simpa [Value.ownBlock] using h
    omega
set_option maxRecDepth 100000 in
set_option maxHeartbeats 4000000 in
theorem rwds_any (A : Option Addr) (n ca : Nat) (l : List Int) (w : World) (hl : BRow w A n l) (hn : n ≤ 2000) :
    Calls Tryz.prog 15 #[.slice A n ca] w (WdsGot l (n / 4) w) := by
  have hl1 := hl.1
  obtain ⟨i0, hi, hz0, hz1, hz2⟩ := info_parts u32Info
  go_enter Tryz.func15, Tryz.ntmps15
  go_wp2
  go_loopw [3, 4] (fun v i wr => ∃ k q : Nat, q ≤ n ∧ i = .int .i64 q ∧ Hid (q = 4 * k) ∧ wr.ownsRow w.heap.size 22 1 v k (wdsK l k) ∧ Below w.heap.size w wr) (fun _ i _ => (n - RowKit.intOf i).toNat)
  case atStart => exact ⟨0, 0, by omega, rfl, Lib.hid rfl, World.ownsRow_nil _ _ _ _, Below.refl _ _⟩
  case round =>
    obtain ⟨k, q, hk, rfl, hq, hrow, hB⟩ := hrel
    by_cases hlt : q + 4 ≤ n
    · obtain ⟨b, off, rfl, hb, hc0⟩ := hl.2.2 (by omega)
      have hc := fun k (hk : k < l.length) => (hB.cell (p := ⟨b, off + k, none⟩) hb).trans (hc0 k hk)
      clear hc0
      have f0 := hc q (by omega)
      have f1 := hc (q + 1) (by omega)
      have f2 := hc (q + 2) (by omega)
      have f3 := hc (q + 3) (by omega)
      have hs := wdsK_succ l k
      have hw : wdOf l k = l[q] + l[q + 1] * 256 + l[q + 2] * 65536 + l[q + 3] * 16777216 := by
        have := hq.out
        unfold wdOf
        rw [← this]
        simp [List.getD, show q < l.length by omega, show q + 1 < l.length by omega, show q + 2 < l.length by omega, show q + 3 < l.length by omega]
      obtain ⟨a0, b0⟩ := hl.2.1 _ (List.getElem_mem (show q < l.length by omega))
      obtain ⟨a1, b1⟩ := hl.2.1 _ (List.getElem_mem (show q + 1 < l.length by omega))
      obtain ⟨a2, b2⟩ := hl.2.1 _ (List.getElem_mem (show q + 2 < l.length by omega))
      obtain ⟨a3, b3⟩ := hl.2.1 _ (List.getElem_mem (show q + 3 < l.length by omega))
      rw [hw] at hs
      clear hc hw
      generalize l[q] = c0 at *
      generalize l[q + 1] = c1 at *
      generalize l[q + 2] = c2 at *
      generalize l[q + 3] = c3 at *
      clear hl hl1
      have n0 : q < n := by omega
      have n1 : (q : Int) + 1 < n := by omega
      have n2 : (q : Int) + 2 < n := by omega
      have n3 : (q : Int) + 3 < n := by omega
      have m1 : (0 : Int) ≤ q + 1 := by omega
      have m2 : (0 : Int) ≤ q + 2 := by omega
      have m3 : (0 : Int) ≤ q + 3 := by omega
      have g1 : IntKind.i64.wrap ((q : Int) + 1) = q + 1 := by exact i64_wrap _ (by omega) (by omega)
      have g2 : IntKind.i64.wrap ((q : Int) + 2) = q + 2 := by exact i64_wrap _ (by omega) (by omega)
      have g3 : IntKind.i64.wrap ((q : Int) + 3) = q + 3 := by exact i64_wrap _ (by omega) (by omega)
      have t1 : ((q : Int) + 1).toNat = q + 1 := by omega
      have t2 : ((q : Int) + 2).toNat = q + 2 := by omega
      have t3 : ((q : Int) + 3).toNat = q + 3 := by omega
      have u0 : IntKind.u32.wrap c0 = c0 := u32_wrap _ a0 (by omega)
      have u1 : IntKind.u32.wrap c1 = c1 := u32_wrap _ a1 (by omega)
      have u2 : IntKind.u32.wrap c2 = c2 := u32_wrap _ a2 (by omega)
      have u3 : IntKind.u32.wrap c3 = c3 := u32_wrap _ a3 (by omega)
      have hX := or_all c0 c1 c2 c3 a0 b0 a1 b1 a2 b2 a3 b3
      rw [u0, u1, u2, u3] at hX
      obtain ⟨p1, hp1⟩ : ∃ p, IntKind.u32.wrap (c1 * 256) = p := ⟨_, rfl⟩
      obtain ⟨p2, hp2⟩ : ∃ p, IntKind.u32.wrap (c2 * 65536) = p := ⟨_, rfl⟩
      obtain ⟨p3, hp3⟩ : ∃ p, IntKind.u32.wrap (c3 * 16777216) = p := ⟨_, rfl⟩
      rw [hp1, hp2, hp3] at hX
      obtain ⟨r1, hr1⟩ : ∃ r, bits BinOp.or IntKind.u32 c0 p1 = r := ⟨_, rfl⟩
      rw [hr1] at hX
      obtain ⟨r2, hr2⟩ : ∃ r, bits BinOp.or IntKind.u32 r1 p2 = r := ⟨_, rfl⟩
      rw [hr2] at hX
      rw [← hX] at hs
      clear hX
      obtain ⟨r3, hr3⟩ : ∃ r, bits BinOp.or IntKind.u32 r2 p3 = r := ⟨_, rfl⟩
      rw [hr3] at hs
      replace hs := Lib.hid hs
      have hk5 : k ≤ 500 := by have := hq.out; omega
      have hsz := hB.size
      have hm1 : k + 1 ≤ maxLen := by unfold maxLen; omega
      have hm2 : (k + 1) * 4 ≤ 140737488355328 := by omega
      clear a0 a1 a2 a3 b0 b1 b2 b3
      go_wp2
      go_region_held_law (fun w' => w'.cell? ⟨b, off + q, none⟩ = some (.int .u8 c0) ∧ w'.cell? ⟨b, off + (q + 1), none⟩ = some (.int .u8 c1) ∧ w'.cell? ⟨b, off + (q + 2), none⟩ = some (.int .u8 c2) ∧ w'.cell? ⟨b, off + (q + 3), none⟩ = some (.int .u8 c3)) (first | go_keep | exact hkeep.out)
        ((refine step_append_own rfl (.tmp 12) (.tmp 42) 38 rfl w.heap.size 22 i0 (.int .u32 0) 1 4 Tryz.underlying38 hi hz0 hz1 hz2 rfl (by decide) _ k (wdsK l k) rfl (World.ownsRow.drew (hrow.alloc _)) ⟨wr.heap.size, 0, none⟩ 1 1 [_] rfl rfl (one_news wr _ _) (one_int _ _) hm1 hm2 (le_drew wr _ _ hsz) ?_; intro v' w1 hown' hgrow; have hkeep := Lib.hid (And.intro ((far_cell (World.ownsRow.drew (hrow.alloc _)) hgrow hb (le_drew wr _ _ (by omega))).trans (cell_up _ f0)) (And.intro ((far_cell (World.ownsRow.drew (hrow.alloc _)) hgrow hb (le_drew wr _ _ (by omega))).trans (cell_up _ f1)) (And.intro ((far_cell (World.ownsRow.drew (hrow.alloc _)) hgrow hb (le_drew wr _ _ (by omega))).trans (cell_up _ f2)) ((far_cell (World.ownsRow.drew (hrow.alloc _)) hgrow hb (le_drew wr _ _ (by omega))).trans (cell_up _ f3)))))))
      go_wp2
      refine ⟨⟨k + 1, q + 4, by omega, by simp, Lib.hid (by have := hq.out; omega), by rw [hs.out]; exact hown', ?_⟩, by simp [RowKit.intOf]; omega⟩
      exact (hB.alloc hB.size _).drew.trans (below_grown (World.ownsRow.drew (hrow.alloc _)) hgrow (le_drew wr _ _ hsz))
    · have hke : k = n / 4 := by have := hq.out; omega
      subst hke
      generalize n / 4 = m at *
      go_wp2
      go_ret
      exact ⟨_, rfl, hrow, hB⟩
end Go.Proofs.YtopfaapcekiojaaGreat
