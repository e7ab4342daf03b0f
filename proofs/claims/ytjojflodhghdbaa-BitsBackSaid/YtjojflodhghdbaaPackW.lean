/- The contracts of Pack and Apart. -/
import Derived.Test.YtjojflodhghdbaaSliceW
import Derived.Outline
namespace Go.Proofs.Ytjojflodhghdbaa
open Go.RowKit Go.Sort
attribute [local go_sem] cell_gr frozen_gr
set_option linter.unusedVariables false

/-- fields put one after the other -/
def packGo : Int → List ((Int × Int) × Int) → Int × Int
  | x, [] => (x, 0)
  | x, (f, v) :: r => if putE f.1 f.2 v = 0 then packGo (putI x f.1 f.2 v) r else (0, putE f.1 f.2 v)
theorem putI_u32 (x lo wd v : Int) (hx : U32 x) : U32 (putI x lo wd v) := by
  unfold putI
  split
  · rename_i h
    rw [Bool.and_eq_true] at h
    obtain ⟨h1, h2⟩ := h
    obtain ⟨g1, g2, g3, g4⟩ := (liesB_iff lo wd).1 h1
    have := putN_lt x.toNat lo.toNat wd.toNat v.toNat 32 (by have := hx.1; have := hx.2; omega) (by simpa [putOk] using h2) (by omega)
    exact ⟨by omega, by omega⟩
  · exact ⟨by decide, by decide⟩
theorem packGo_cons (y : Int) (l : List (Int × Int)) (v : List Int) (k : Nat) (h1 : k < l.length) (h2 : k < v.length) :
    packGo y ((l.zip v).drop k) = if putE l[k].1 l[k].2 v[k] = 0 then packGo (putI y l[k].1 l[k].2 v[k]) ((l.zip v).drop (k + 1)) else (0, putE l[k].1 l[k].2 v[k]) := by
  have hz : k < (l.zip v).length := by rw [List.length_zip]; omega
  rw [List.drop_eq_getElem_cons hz, List.getElem_zip]
  generalize l[k] = f
  obtain ⟨a, b⟩ := f
  rfl
theorem packGo_end (y : Int) (l : List (Int × Int)) (v : List Int) (k : Nat) (h1 : l.length ≤ k) : packGo y ((l.zip v).drop k) = (y, 0) := by
  rw [List.drop_eq_nil_of_le (by rw [List.length_zip]; omega)]; rfl
set_option maxHeartbeats 800000 in
theorem pack_same_len (x : Int) (A B : Option Addr) (n ca cb : Nat) (l : List (Int × Int)) (v : List Int) (w : World) (hx : U32 x) (hl : FRow w A n l) (hv : WRow w B n v) (hn : n ≤ 9223372036854775807) :
    Calls Try.prog 29 #[.int .u32 x, .slice A n ca, .slice B n cb] w (Ret (.tuple #[.int .u32 (packGo x (l.zip v)).1, .int .i64 (packGo x (l.zip v)).2]) w) := by
  have hl1 := hl.1
  have hv1 := hv.1
  have hl2 := hl.2.1
  have hv2 := hv.2.1
  have HL := Lib.hid hl1
  have HV := Lib.hid hv1
  have PE := Lib.hid (fun y k (h : n ≤ k) => packGo_end y l v k (by omega))
  clear hl1 hv1
  go_enter Try.func29, Try.ntmps29
  go_wp2
  go_loopw [8, 21] (fun a i wr => ∃ (k : Nat) (y : Int), k ≤ n ∧ i = .int .i64 k ∧ a = .int .u32 y ∧ U32 y ∧ Hid (packGo y ((l.zip v).drop k) = packGo x (l.zip v)) ∧ Below w.heap.size w wr) (fun _ i _ => n - (intOf i).toNat)
  case atStart => exact ⟨0, x, by omega, rfl, rfl, hx, Lib.hid rfl, Below.refl _ _⟩
  case round =>
    obtain ⟨k, y, hk, rfl, rfl, hy, hp, hB⟩ := hrel
    by_cases hlt : k < n
    · obtain ⟨b1, o1, rfl, hb1, hc1⟩ := (hl.keep hB).2.2 (by omega)
      obtain ⟨b2, o2, rfl, hb2, hc2⟩ := (hv.keep hB).2.2 (by omega)
      have hkl : k < l.length := by have := HL.out; omega
      have hkv : k < v.length := by have := HV.out; omega
      obtain ⟨f0, f1⟩ := hc1 k hkl
      have f2 := hc2 k hkv
      have i1 := hl2 _ (List.getElem_mem hkl)
      have i2 := hv2 _ (List.getElem_mem hkv)
      have HC := Lib.hid (packGo_cons y l v k hkl hkv)
      clear hc1 hc2
      generalize l[k].1 = lo at *
      generalize l[k].2 = wd at *
      generalize v[k] = a at *
      have hput := putI_u32 y lo wd a hy
      obtain ⟨i1a, i1b⟩ := i1
      by_cases hE : putE lo wd a = 0
      · have c := fun W => put_any y lo wd a W hy i2 i1a i1b
        rw [hE] at c
        have HC2 : Hid (packGo (putI y lo wd a) ((l.zip v).drop (k + 1)) = packGo x (l.zip v)) := by
          have := HC.out; rw [if_pos hE, hp.out] at this; exact this.symm
        clear HC hE hp
        generalize putI y lo wd a = z at *
        go_wp2
        refine wp_region_quiet_below (by kernel_rfl) (by kernel_rfl) ?_
        repeat (go_big_quiet_step (exact gr (c _)))
        refine wpQuiet_nil ?_
        intro w4 hw4
        have hb4 := of_gr hw4
        clear hw4
        go_wp2
        go_roundw
        case rel => exact ⟨k + 1, z, by omega, by go_num, rfl, hput, HC2, bthen (hB.alloc hB.size _) hb4 (by simp; have := hB.size; omega)⟩
        case measure => simp [intOf]; omega
      · have c := fun W => put_any y lo wd a W hy i2 i1a i1b
        have hE' : (putE lo wd a != 0) = true := by simpa using hE
        have HC2 : Hid (packGo x (l.zip v) = (0, putE lo wd a)) := by
          have := HC.out; rw [if_neg hE, hp.out] at this; exact this
        clear HC hE hp
        generalize putE lo wd a = z at *
        go_wp2
        refine wp_region_quiet_below (by kernel_rfl) (by kernel_rfl) ?_
        repeat (go_big_quiet_step (exact gr (c _)))
        refine wpQuiet_nil ?_
        intro w4 hw4
        have hb4 := of_gr hw4
        clear hw4
        go_wp2
        go_ret2
        exact ⟨by rw [HC2.out]; try rfl, bthen (hB.alloc hB.size _) hb4 (by simp; have := hB.size; omega)⟩
    · have hE : Hid (packGo x (l.zip v) = (y, 0)) := by rw [← hp.out]; exact PE.out y k (by omega)
      go_wp2
      go_ret2
      exact ⟨by rw [hE.out]; rfl, hB⟩

/-- what Pack answers -/
def packI (x : Int) (l : List (Int × Int)) (v : List Int) : Int × Int := if l.length = v.length then packGo x (l.zip v) else (0, 1)
theorem pack_any (x : Int) (A B : Option Addr) (n m ca cb : Nat) (l : List (Int × Int)) (v : List Int) (w : World) (hx : U32 x) (hl : FRow w A n l) (hv : WRow w B m v) (hn : n ≤ 9223372036854775807) (hm : m ≤ 9223372036854775807) :
    Calls Try.prog 29 #[.int .u32 x, .slice A n ca, .slice B m cb] w (Ret (.tuple #[.int .u32 (packI x l v).1, .int .i64 (packI x l v).2]) w) := by
  by_cases h : n = m
  · subst h
    have e : packI x l v = packGo x (l.zip v) := if_pos (by rw [hl.1, hv.1])
    rw [e]
    exact pack_same_len x A B n ca cb l v w hx hl hv hn
  · have e : packI x l v = (0, 1) := if_neg (by rw [hl.1, hv.1]; exact h)
    rw [e]
    have hne : ((n : Int) != (m : Int)) = true := by rw [bne_iff_ne]; omega
    clear e hl hv
    go_enter Try.func29, Try.ntmps29
    go_wp2
    go_ret2
    exact ⟨rfl, Below.refl _ _⟩

set_option maxHeartbeats 800000 in
theorem rpack_same_len (x : Int) (A B : Option Addr) (n ca cb : Nat) (l : List (Int × Int)) (v : List Int) (w : World) (hx : U32 x) (hl : FRow w A n l) (hv : WRow w B n v) (hn : n ≤ 9223372036854775807) :
    Calls Try.prog 30 #[.int .u32 x, .slice A n ca, .slice B n cb] w (Ret (.tuple #[.int .u32 (packGo x (l.zip v)).1, .int .i64 (packGo x (l.zip v)).2]) w) := by
  have hl1 := hl.1
  have hv1 := hv.1
  have hl2 := hl.2.1
  have hv2 := hv.2.1
  have HL := Lib.hid hl1
  have HV := Lib.hid hv1
  have PE := Lib.hid (fun y k (h : n ≤ k) => packGo_end y l v k (by omega))
  clear hl1 hv1
  go_enter Try.func30, Try.ntmps30
  go_wp2
  go_loopw [0, 8] (fun a i wr => ∃ (k : Nat) (y : Int), k ≤ n ∧ i = .int .i64 k ∧ a = .int .u32 y ∧ U32 y ∧ Hid (packGo y ((l.zip v).drop k) = packGo x (l.zip v)) ∧ Below w.heap.size w wr) (fun _ i _ => n - (intOf i).toNat)
  case atStart => exact ⟨0, x, by omega, rfl, rfl, hx, Lib.hid rfl, Below.refl _ _⟩
  case round =>
    obtain ⟨k, y, hk, rfl, rfl, hy, hp, hB⟩ := hrel
    by_cases hlt : k < n
    · obtain ⟨b1, o1, rfl, hb1, hc1⟩ := (hl.keep hB).2.2 (by omega)
      obtain ⟨b2, o2, rfl, hb2, hc2⟩ := (hv.keep hB).2.2 (by omega)
      have hkl : k < l.length := by have := HL.out; omega
      have hkv : k < v.length := by have := HV.out; omega
      obtain ⟨f0, f1⟩ := hc1 k hkl
      have f2 := hc2 k hkv
      have i1 := hl2 _ (List.getElem_mem hkl)
      have i2 := hv2 _ (List.getElem_mem hkv)
      have HC := Lib.hid (packGo_cons y l v k hkl hkv)
      clear hc1 hc2
      generalize l[k].1 = lo at *
      generalize l[k].2 = wd at *
      generalize v[k] = a at *
      have hput := putI_u32 y lo wd a hy
      obtain ⟨i1a, i1b⟩ := i1
      have q1 : (0 : Int) ≤ (k : Int) := by omega
      have q2 : (k : Int) < (n : Int) := by omega
      by_cases hE : putE lo wd a = 0
      · have c := fun W => rput_any y lo wd a W hy i2 i1a i1b
        rw [hE] at c
        have HC2 : Hid (packGo (putI y lo wd a) ((l.zip v).drop (k + 1)) = packGo x (l.zip v)) := by
          have := HC.out; rw [if_pos hE, hp.out] at this; exact this.symm
        clear HC hE hp
        generalize putI y lo wd a = z at *
        go_wp2
        refine wp_region_quiet_below (by kernel_rfl) (by kernel_rfl) ?_
        repeat (go_big_quiet_step (exact gr (c _)))
        refine wpQuiet_nil ?_
        intro w4 hw4
        have hb4 := of_gr hw4
        clear hw4
        go_wp2
        go_roundw
        case rel => exact ⟨k + 1, z, by omega, by go_num, rfl, hput, HC2, bthen hB hb4 hB.size⟩
        case measure => simp [intOf]; omega
      · have c := fun W => rput_any y lo wd a W hy i2 i1a i1b
        have hE' : (putE lo wd a != 0) = true := by simpa using hE
        have HC2 : Hid (packGo x (l.zip v) = (0, putE lo wd a)) := by
          have := HC.out; rw [if_neg hE, hp.out] at this; exact this
        clear HC hE hp
        generalize putE lo wd a = z at *
        go_wp2
        refine wp_region_quiet_below (by kernel_rfl) (by kernel_rfl) ?_
        repeat (go_big_quiet_step (exact gr (c _)))
        refine wpQuiet_nil ?_
        intro w4 hw4
        have hb4 := of_gr hw4
        clear hw4
        go_wp2
        go_ret2
        exact ⟨by rw [HC2.out]; try rfl, bthen hB hb4 hB.size⟩
    · have hE : Hid (packGo x (l.zip v) = (y, 0)) := by rw [← hp.out]; exact PE.out y k (by omega)
      go_wp2
      go_ret2
      exact ⟨by rw [hE.out]; rfl, hB⟩
theorem rpack_any (x : Int) (A B : Option Addr) (n m ca cb : Nat) (l : List (Int × Int)) (v : List Int) (w : World) (hx : U32 x) (hl : FRow w A n l) (hv : WRow w B m v) (hn : n ≤ 9223372036854775807) (hm : m ≤ 9223372036854775807) :
    Calls Try.prog 30 #[.int .u32 x, .slice A n ca, .slice B m cb] w (Ret (.tuple #[.int .u32 (packI x l v).1, .int .i64 (packI x l v).2]) w) := by
  by_cases h : n = m
  · subst h
    have e : packI x l v = packGo x (l.zip v) := if_pos (by rw [hl.1, hv.1])
    rw [e]
    exact rpack_same_len x A B n ca cb l v w hx hl hv hn
  · have e : packI x l v = (0, 1) := if_neg (by rw [hl.1, hv.1]; exact h)
    rw [e]
    have hne : ((n : Int) != (m : Int)) = true := by rw [bne_iff_ne]; omega
    clear e hl hv
    go_enter Try.func30, Try.ntmps30
    go_wp2
    go_ret2
    exact ⟨rfl, Below.refl _ _⟩

/-- are fields apart, where some bits are taken? -/
def apartGo : Nat → List (Int × Int) → Bool
  | _, [] => true
  | s, f :: r => liesB f.1 f.2 && (s &&& mskN f.1.toNat f.2.toNat == 0) && apartGo (s ||| mskN f.1.toNat f.2.toNat) r
theorem apartGo_step (s : Nat) (l : List (Int × Int)) (k : Nat) (h : k < l.length) :
    apartGo s (l.drop k) = (liesB l[k].1 l[k].2 && (s &&& mskN l[k].1.toNat l[k].2.toNat == 0) && apartGo (s ||| mskN l[k].1.toNat l[k].2.toNat) (l.drop (k + 1))) := by
  rw [List.drop_eq_getElem_cons h]; rfl
theorem apart_bits (s : Nat) (lo wd : Int) (hs : s < 4294967296) (h : liesB lo wd = true) :
    (bits BinOp.and IntKind.u32 (s : Int) (maskI lo wd) != 0) = !(s &&& mskN lo.toNat wd.toNat == 0) ∧ bits BinOp.or IntKind.u32 (s : Int) (maskI lo wd) = ((s ||| mskN lo.toNat wd.toNat : Nat) : Int) ∧ s ||| mskN lo.toNat wd.toNat < 4294967296 := by
  obtain ⟨g1, g2, g3, g4⟩ := (liesB_iff lo wd).1 h
  have hm := mskN_lt lo.toNat wd.toNat 32 (by omega)
  have hm' : mskN lo.toNat wd.toNat < 4294967296 := hm
  rw [maskI_eq lo wd h, u32_and_nat _ _ hs hm', u32_or_nat _ _ hs hm']
  refine ⟨?_, rfl, Nat.or_lt_two_pow (n := 32) hs hm⟩
  rw [Bool.eq_iff_iff]; simp
set_option maxHeartbeats 800000 in
theorem apart_any (A : Option Addr) (n ca : Nat) (l : List (Int × Int)) (w : World) (hl : FRow w A n l) (hn : n ≤ 9223372036854775807) :
    Calls Try.prog 31 #[.slice A n ca] w (Ret (.bool (apartGo 0 l)) w) := by
  have hl1 := hl.1
  have hl2 := hl.2.1
  have HL := Lib.hid hl1
  clear hl1
  go_enter Try.func31, Try.ntmps31
  go_wp2
  go_loopw [3, 8] (fun a i wr => ∃ (k s : Nat), k ≤ n ∧ i = .int .i64 k ∧ a = .int .u32 s ∧ s < 4294967296 ∧ Hid (apartGo s (l.drop k) = apartGo 0 l) ∧ Below w.heap.size w wr) (fun _ i _ => n - (intOf i).toNat)
  case atStart => exact ⟨0, 0, by omega, rfl, rfl, by decide, Lib.hid rfl, Below.refl _ _⟩
  case round =>
    obtain ⟨k, s, hk, rfl, rfl, hs, hp, hB⟩ := hrel
    by_cases hlt : k < n
    · obtain ⟨b1, o1, rfl, hb1, hc1⟩ := (hl.keep hB).2.2 (by omega)
      have hkl : k < l.length := by have := HL.out; omega
      obtain ⟨f0, f1⟩ := hc1 k hkl
      have i1 := hl2 _ (List.getElem_mem hkl)
      have HC := Lib.hid (apartGo_step s l k hkl)
      clear hc1
      generalize l[k].1 = lo at *
      generalize l[k].2 = wd at *
      obtain ⟨i1a, i1b⟩ := i1
      have c := fun W => lies_any lo wd W i1a i1b
      by_cases h : liesB lo wd = true
      · obtain ⟨e1, e2, e3⟩ := apart_bits s lo wd hs h
        have c2 := fun W => mask_any lo wd W h
        have hz : (s : Int) < 4294967296 := by omega
        rw [h] at c
        by_cases h2 : (s &&& mskN lo.toNat wd.toNat == 0) = true
        · have HC2 : Hid (apartGo (s ||| mskN lo.toNat wd.toNat) (l.drop (k + 1)) = apartGo 0 l) := by
            have := HC.out; rw [h, h2, hp.out] at this; exact this.symm
          rw [h2] at e1
          have E2 := Lib.hid e2
          have e1' : (bits BinOp.and IntKind.u32 (s : Int) (maskI lo wd) != 0) = false := e1
          clear HC hp h h2 e2 e1
          generalize s ||| mskN lo.toNat wd.toNat = s2 at *
          go_wp2_with (first
            | (go_at_call 48; refine (c _).mono ?_; rintro e w1 ⟨rfl, hb⟩; have hc1 := (bcell hb).1; have hz1 : wr.heap.size < w1.heap.size := blt hb (by simp); replace hB := bthen (hB.alloc hB.size _) hb (Nat.le_trans hB.size (by simp)))
            | (go_at_call 49; refine (c2 _).mono ?_; rintro e w2 ⟨rfl, hb2⟩; have hc2 := (bcell hb2).1; have hz2 : wr.heap.size < w2.heap.size := blt hb2 (by assumption); replace hB := bthen hB hb2 hB.size))
          go_roundw
          case rel => exact ⟨k + 1, s2, by omega, by go_num, by rw [E2.out], e3, HC2, hB⟩
          case measure => simp [intOf]; omega
        · have h2 : (s &&& mskN lo.toNat wd.toNat == 0) = false := by simpa using h2
          have HC2 : Hid (apartGo 0 l = false) := by
            have := HC.out; rw [h, h2, hp.out] at this; exact this
          rw [h2] at e1
          have e1' : (bits BinOp.and IntKind.u32 (s : Int) (maskI lo wd) != 0) = true := e1
          clear HC hp h h2 e2 e1
          go_wp2_with (first
            | (go_at_call 48; refine (c _).mono ?_; rintro e w1 ⟨rfl, hb⟩; have hc1 := (bcell hb).1; have hz1 : wr.heap.size < w1.heap.size := blt hb (by simp); replace hB := bthen (hB.alloc hB.size _) hb (Nat.le_trans hB.size (by simp)))
            | (go_at_call 49; refine (c2 _).mono ?_; rintro e w2 ⟨rfl, hb2⟩; have hc2 := (bcell hb2).1; have hz2 : wr.heap.size < w2.heap.size := blt hb2 (by assumption); replace hB := bthen hB hb2 hB.size))
          go_ret
          exact ⟨by rw [HC2.out]; try rfl, hB⟩
      · have h : liesB lo wd = false := by simpa using h
        have HC2 : Hid (apartGo 0 l = false) := by
          have := HC.out; rw [h, hp.out] at this; exact this
        rw [h] at c
        clear HC hp h
        go_wp2_with (first
          | (go_at_call 48; refine (c _).mono ?_; rintro e w1 ⟨rfl, hb⟩; replace hB := bthen (hB.alloc hB.size _) hb (Nat.le_trans hB.size (by simp))))
        go_ret
        exact ⟨by rw [HC2.out]; try rfl, hB⟩
    · have hE : Hid (apartGo 0 l = true) := by rw [← hp.out, List.drop_eq_nil_of_le (by have := HL.out; omega)]; rfl
      go_wp2
      go_ret
      exact ⟨by rw [hE.out]; rfl, hB⟩

/-- an array of 32 truths that is a word's bits -/
def Seen (w : World) (g : Nat) (s : Nat) : Prop := ∀ j, j < 32 → w.cell? ⟨g, j, none⟩ = some (.bool (s.testBit j)) ∧ w.frozen? ⟨g, j, none⟩ = false
theorem Seen.keep {W W' : World} {g s : Nat} (h : Seen W g s) (hb : Below W.heap.size W W') (hg : g < W.heap.size) : Seen W' g s := fun j hj => by
  rw [(bcell hb).1 _ _ hg, (bcell hb).2 _ _ hg]; exact h j hj
theorem Seen.put {W : World} {g s s' j : Nat} (h : Seen W g s) (hj : j < 32) (hs : ∀ i, i < 32 → s'.testBit i = (decide (i = j) || s.testBit i)) : Seen (W.setCell ⟨g, j, none⟩ (.bool true)) g s' := fun i hi => by
  rw [World.frozen?_setCell, hs i hi]
  refine ⟨?_, (h i hi).2⟩
  by_cases e : i = j
  · subst e
    rw [World.cell?_setCell_same' _ _ _ (by rw [(h i hi).1]; rfl)]; try simp
  · rw [World.cell?_setCell_other _ _ _ _ (by simp; try omega), (h i hi).1]; simp [e]
theorem msk_next (s lo t : Nat) (i : Nat) : (s ||| mskN lo (t + 1)).testBit i = (decide (i = lo + t) || (s ||| mskN lo t).testBit i) := by
  rw [Nat.testBit_or, Nat.testBit_or, mskN_bit, mskN_bit]
  by_cases h1 : i = lo + t
  · subst h1; simp
  · have : (i < lo + (t + 1)) ↔ (i < lo + t) ∨ i = lo + t := by omega
    by_cases h2 : i < lo + t
    · have h3 : i < lo + (t + 1) := by omega
      simp [h1, h2, h3]
    · have h3 : ¬ i < lo + (t + 1) := by omega
      simp [h1, h2, h3]
set_option maxHeartbeats 1000000 in
theorem rapart_any (A : Option Addr) (n ca : Nat) (l : List (Int × Int)) (w : World) (hl : FRow w A n l) (hn : n ≤ 9223372036854775807) :
    Calls Try.prog 28 #[.slice A n ca] w (Ret (.bool (apartGo 0 l)) w) := by
  have hl1 := hl.1
  have hl2 := hl.2.1
  have HL := Lib.hid hl1
  clear hl1
  go_enter Try.func28, Try.ntmps28
  go_wp2
  go_loopw [4] (fun i wr => ∃ (k s : Nat), k ≤ n ∧ i = .int .i64 k ∧ s < 4294967296 ∧ Hid (apartGo s (l.drop k) = apartGo 0 l) ∧ Hid (Seen wr w.heap.size s) ∧ w.heap.size < wr.heap.size ∧ Below w.heap.size w wr) (fun i _ => n - (intOf i).toNat)
  case atStart =>
    refine ⟨0, 0, by omega, rfl, by decide, Lib.hid rfl, ?_, by simp, bnew _ _⟩
    refine Lib.hid (fun j hj => ?_)
    have : j = 0 ∨ j = 1 ∨ j = 2 ∨ j = 3 ∨ j = 4 ∨ j = 5 ∨ j = 6 ∨ j = 7 ∨ j = 8 ∨ j = 9 ∨ j = 10 ∨ j = 11 ∨ j = 12 ∨ j = 13 ∨ j = 14 ∨ j = 15 ∨ j = 16 ∨ j = 17 ∨ j = 18 ∨ j = 19 ∨ j = 20 ∨ j = 21 ∨ j = 22 ∨ j = 23 ∨ j = 24 ∨ j = 25 ∨ j = 26 ∨ j = 27 ∨ j = 28 ∨ j = 29 ∨ j = 30 ∨ j = 31 := by omega
    rcases this with h | h | h | h | h | h | h | h | h | h | h | h | h | h | h | h | h | h | h | h | h | h | h | h | h | h | h | h | h | h | h | h <;> subst h <;> exact ⟨by simp, by simp⟩
  case round =>
    obtain ⟨k, s, hk, rfl, hs, hp, hS, hz, hB⟩ := hrel
    by_cases hlt : k < n
    · obtain ⟨b1, o1, rfl, hb1, hc1⟩ := hl.2.2 (by omega)
      have hkl : k < l.length := by have := HL.out; omega
      obtain ⟨f0, f1⟩ := hc1 k hkl
      have hd1 := hB.cell (p := ⟨b1, o1 + k * 2, none⟩) hb1
      have hd2 := hB.cell (p := ⟨b1, o1 + k * 2 + 1, none⟩) hb1
      rw [f0] at hd1
      rw [f1] at hd2
      have hbw : b1 < wr.heap.size := by omega
      have i1 := hl2 _ (List.getElem_mem hkl)
      have HC := Lib.hid (apartGo_step s l k hkl)
      clear hc1
      generalize l[k].1 = lo at *
      generalize l[k].2 = wd at *
      obtain ⟨i1a, i1b⟩ := i1
      have c := fun W => rlies_any lo wd W i1a i1b
      by_cases h : liesB lo wd = true
      · obtain ⟨g1, g2, g3, g4⟩ := (liesB_iff lo wd).1 h
        rw [h] at c
        have HH := Lib.hid h
        clear h
        go_wp2_with (first
          | (go_at_call 50; refine (c _).mono ?_; rintro e w1 ⟨rfl, hb⟩; have hS1 := Lib.hid (hS.out.keep hb hz); have hc1 := (bcell hb).1; have hz1 : w.heap.size < w1.heap.size := blt hb hz; have hbw1 : b1 < w1.heap.size := blt hb hbw; replace hB := bthen hB hb hB.size))
        clear hS hd1 hd2 hc1 hb hbw
        go_loopw [5] (fun i wq => ∃ (t : Nat), t ≤ wd.toNat ∧ i = .int .i64 (lo + t) ∧ (∀ i, lo.toNat ≤ i → i < lo.toNat + t → s.testBit i = false) ∧ Hid (Seen wq w.heap.size (s ||| mskN lo.toNat t)) ∧ w.heap.size < wq.heap.size ∧ Below w.heap.size w wq) (fun i _ => (lo + wd - intOf i).toNat)
        case atStart =>
          refine ⟨0, by omega, by simp, fun i h1 h2 => by omega, ?_, hz1, hB⟩
          have e : mskN lo.toNat 0 = 0 := by unfold mskN; simp
          rw [e, Nat.or_zero]; exact hS1
        case round =>
          obtain ⟨t, ht, rfl, hno, hS2, hz2, hB2⟩ := hrel
          have hq1 := hB2.cell (p := ⟨b1, o1 + k * 2, none⟩) hb1
          have hq2 := hB2.cell (p := ⟨b1, o1 + k * 2 + 1, none⟩) hb1
          rw [f0] at hq1
          rw [f1] at hq2
          have hbq : b1 < wr.heap.size := by have := hB2.size; omega
          have HN := Lib.hid hno
          clear hno
          have q1 : (0 : Int) ≤ (k : Int) := by omega
          have q2 : (k : Int) < (n : Int) := by omega
          by_cases htl : (t : Int) < wd
          · have hj : (lo + (t : Int)).toNat = lo.toNat + t := by omega
            have hj0 : 0 ≤ lo + (t : Int) := by omega
            have hj32 : lo + (t : Int) < 32 := by omega
            have htw : lo + (t : Int) < lo + wd := by omega
            have hlt32 : lo.toNat + t < 32 := by omega
            go_wp2
            refine wp_region_quiet_below (by kernel_rfl) (by kernel_rfl) ?_
            repeat (go_big_quiet_step (fail))
            refine wpQuiet_nil ?_
            intro w4 hw4
            have hb4 := of_gr hw4
            clear hw4
            have hS4 := hS2.out.keep hb4 hz2
            have hz4 := blt hb4 hz2
            have hB4 := bthen hB2 hb4 hB2.size
            have hsee := (hS4 (lo.toNat + t) hlt32).1
            have hfro := (hS4 (lo.toNat + t) hlt32).2
            have hbit : (s ||| mskN lo.toNat t).testBit (lo.toNat + t) = s.testBit (lo.toNat + t) := by
              rw [Nat.testBit_or, mskN_bit]; simp
            rw [hbit] at hsee
            have HS4 := Lib.hid hS4
            clear hS4 hbit
            by_cases hbt : s.testBit (lo.toNat + t) = true
            · rw [hbt] at hsee
              have HC2 : Hid (apartGo 0 l = false) := by
                have h3 : (s &&& mskN lo.toNat wd.toNat == 0) = false := by
                  rw [Bool.eq_false_iff]; intro h4
                  have h5 := (and_msk_zero s lo.toNat wd.toNat).1 (by simpa using h4) (lo.toNat + t) (by omega) (by omega)
                  rw [hbt] at h5; cases h5
                have := HC.out; rw [HH.out, h3, hp.out] at this; exact this
              go_wp2
              go_ret
              exact ⟨by rw [HC2.out]; try rfl, hB4⟩
            · have hbt : s.testBit (lo.toNat + t) = false := by simpa using hbt
              rw [hbt] at hsee
              have HS5 := Lib.hid (HS4.out.put (s' := s ||| mskN lo.toNat (t + 1)) hlt32 (fun i hi => msk_next s lo.toNat t i))
              have HN2 : Hid (∀ i, lo.toNat ≤ i → i < lo.toNat + (t + 1) → s.testBit i = false) := fun i h1 h2 => by
                rcases Nat.lt_or_ge i (lo.toNat + t) with h3 | h3
                · exact HN.out i h1 h3
                · have : i = lo.toNat + t := by omega
                  rw [this]; exact hbt
              clear hbt
              go_wp2
              go_roundw
              case rel => exact ⟨t + 1, by omega, by rw [show lo + (t : Int) + 1 = lo + ((t + 1 : Nat) : Int) by omega], HN2.out, HS5, by simpa using hz4, hB4.setCell (by simp) _⟩
              case measure => simp [intOf]; omega
          · have htw : t = wd.toNat := by omega
            subst htw
            have htf : ¬ lo + ((wd.toNat : Nat) : Int) < lo + wd := by omega
            have HC2 : Hid (apartGo (s ||| mskN lo.toNat wd.toNat) (l.drop (k + 1)) = apartGo 0 l) := by
              have h3 : (s &&& mskN lo.toNat wd.toNat == 0) = true := by
                rw [beq_iff_eq]; exact (and_msk_zero _ _ _).2 HN.out
              have := HC.out; rw [HH.out, h3, hp.out] at this; exact this.symm
            have hs2 : s ||| mskN lo.toNat wd.toNat < 4294967296 := Nat.or_lt_two_pow (n := 32) hs (mskN_lt _ _ 32 (by omega))
            go_wp2
            refine wp_region_quiet_below (by kernel_rfl) (by kernel_rfl) ?_
            repeat (go_big_quiet_step (fail))
            refine wpQuiet_nil ?_
            intro w4 hw4
            have hb4 := of_gr hw4
            clear hw4
            have hS4 := hS2.out.keep hb4 hz2
            have hz4 := blt hb4 hz2
            have hB4 := bthen hB2 hb4 hB2.size
            have HS4 := Lib.hid hS4
            clear hS4
            go_wp2
            go_roundw
            case rel => exact ⟨k + 1, _, by omega, by go_num, hs2, HC2, HS4, hz4, hB4⟩
            case measure => simp [intOf]; omega
      · have h : liesB lo wd = false := by simpa using h
        have HC2 : Hid (apartGo 0 l = false) := by
          have := HC.out; rw [h, hp.out] at this; exact this
        rw [h] at c
        clear HC hp h
        go_wp2_with (first
          | (go_at_call 50; refine (c _).mono ?_; rintro e w1 ⟨rfl, hb⟩; replace hB := bthen hB hb hB.size))
        go_ret
        exact ⟨by rw [HC2.out]; try rfl, hB⟩
    · have hE : Hid (apartGo 0 l = true) := by rw [← hp.out, List.drop_eq_nil_of_le (by have := HL.out; omega)]; rfl
      go_wp2
      go_ret
      exact ⟨by rw [hE.out]; rfl, hB⟩
end Go.Proofs.Ytjojflodhghdbaa
