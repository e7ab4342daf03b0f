/- The law's helper `address`: where a name is, when sections and symbols elsewhere got addresses. -/
import Derived.Test.YtddfafapahnaaaaFixP
import Derived.Test.YtddfafapahnaaaaSliceW
namespace Go.Proofs.Ytddfafapahnaaaa
open Go.RowKit Go.Sort Go.Shelf
attribute [local go_sem] cell_gr frozen_gr
set_option linter.unusedVariables false
set_option linter.unusedSimpArgs false

/-- a slice of numbers -/
def NRow (w : World) (A : Option Addr) (n : Nat) (l : List Int) : Prop :=
  l.length = n ∧ n ≤ maxLen ∧ (∀ v ∈ l, I64 v) ∧ (0 < n → ∃ b off, A = some ⟨b, off, none⟩ ∧ b < w.heap.size ∧ ∀ k (h : k < l.length), w.cell? ⟨b, off + k, none⟩ = some (.int .i64 l[k]))
theorem NRow.keep {w w' : World} {A : Option Addr} {n : Nat} {l : List Int} (h : NRow w A n l) (hb : Below w.heap.size w w') : NRow w' A n l := by
  refine ⟨h.1, h.2.1, h.2.2.1, fun hn => ?_⟩
  obtain ⟨b, off, e, hlt, hc⟩ := h.2.2.2 hn
  refine ⟨b, off, e, Nat.lt_of_lt_of_le hlt hb.size, fun k hk => ?_⟩
  rw [(bcell hb).1 _ _ hlt]
  exact hc k hk
/-- a section's address -/
def atI (l : List Int) (s : Int) : Int := if s < 0 then 0 else l.getD (s.toNat % l.length) 0
set_option maxRecDepth 100000 in
set_option maxHeartbeats 4000000 in
theorem at_any (B : Nat) (s : Int) (A : Option Addr) (n ca : Nat) (l : List Int) (w : World) (hc : w.cell? ⟨B, 0, none⟩ = some (.slice A n ca)) (hl : NRow w A n l) (hs : I64 s) :
    Calls Try.prog 42 #[.int .i64 s, .pointer (some ⟨B, 0, none⟩)] w (Ret (.int .i64 (atI l s)) w) := by
  by_cases h0 : s < 0
  · have e : atI l s = 0 := if_pos h0
    rw [e]
    have b0 : decide (s < 0) = true := by simp [h0]
    clear h0 hl
    go_enter Try.func42, Try.ntmps42
    go_wp2
    go_ret
    exact ⟨rfl, Below.refl _ _⟩
  · have b0 : decide (s < 0) = false := by simp; omega
    have e : atI l s = l.getD (s.toNat % l.length) 0 := if_neg h0
    rw [e]
    obtain ⟨h1, h2, h3, h4⟩ := hl
    have hm : n ≤ 9223372036854775807 := h2
    rcases Nat.eq_zero_or_pos n with hn | hn
    · subst hn
      obtain rfl : l = [] := List.length_eq_zero_iff.1 h1
      clear h4 e
      go_enter Try.func42, Try.ntmps42
      go_wp2
      go_ret
      exact ⟨rfl, Below.refl _ _⟩
    · obtain ⟨b, off, rfl, hlt, hcell⟩ := h4 hn
      have hk : s.toNat % l.length < l.length := Nat.mod_lt _ (by omega)
      have hcl := hcell _ hk
      rw [List.getD_eq_getElem?_getD, List.getElem?_eq_getElem hk]
      show Calls _ _ _ _ (Ret (.int .i64 l[s.toNat % l.length]) w)
      generalize l[s.toNat % l.length] = v at *
      have ht : s.tmod (n : Int) = ((s.toNat % l.length : Nat) : Int) := by
        obtain ⟨m, rfl⟩ := Int.eq_ofNat_of_zero_le (show 0 ≤ s by omega)
        rw [Int.tmod_eq_emod_of_nonneg (by omega), h1]
        simp
      have hk' : s.toNat % l.length < n := by rw [← h1]; exact hk
      clear hcell e hk
      generalize s.toNat % l.length = k at *
      have bn : decide ((n : Int) = 0) = false := by simp; omega
      go_enter Try.func42, Try.ntmps42
      go_wp2
      go_region
      go_wp2
      go_ret
      exact ⟨rfl, (Below.refl _ _).drew⟩
theorem at_gr {wr : World} {B : Nat} (s : Int) {A : Option Addr} {n ca : Nat} {l : List Int} (hB : B < wr.heap.size) (hc : wr.cell? ⟨B, 0, none⟩ = some (.slice A n ca)) (hl : NRow wr A n l) (hs : I64 s) (d : Nat) (os : Array Obj) :
    Calls Try.prog 42 #[.int .i64 s, .pointer (some ⟨B, 0, none⟩)] (grow (redrawn wr d) os) (Ret (.int .i64 (atI l s)) (grow (redrawn wr d) os)) :=
  at_any B s A n ca l _ (by rw [cell_gr hB]; exact hc) (hl.keep (below_regrown wr d os)) hs
/-- where a name is -/
def adrI (nm : ByteArray) (sec off : Int) (l : List Sy) (S E : List Int) : Int × Bool := match part nm sec off l with
  | none => (0, false)
  | some none => (0, true)
  | some (some p) => (if p.2 < 0 then wrap64 (atI S sec + off) else if p.1.2.1 = -1 then E.getD (p.2.toNat % E.length) 0 else wrap64 (atI S p.1.2.1 + p.1.2.2.1), true)
theorem adrI_hit {nm : ByteArray} {sec off : Int} {l : List Sy} {S E : List Int} {s : Sy} {k : Nat} (h0 : nm ≠ noS) (hd : nm ≠ dotS) (h : fnd nm l 0 = some (s, k)) :
    adrI nm sec off l S E = (if s.2.1 = -1 then E.getD (k % E.length) 0 else wrap64 (atI S s.2.1 + s.2.2.1), true) := by
  unfold adrI part look
  rw [if_neg h0, if_neg hd, h]
  show (if ((k : Nat) : Int) < 0 then _ else if s.2.1 = -1 then E.getD (((k : Nat) : Int).toNat % E.length) 0 else _, true) = _
  rw [if_neg (by omega), Int.toNat_natCast]
theorem adrI_miss {nm : ByteArray} {sec off : Int} {l : List Sy} {S E : List Int} (h0 : nm ≠ noS) (hd : nm ≠ dotS) (h : fnd nm l 0 = none) : adrI nm sec off l S E = (0, false) := by
  unfold adrI part look
  rw [if_neg h0, if_neg hd, h]
  rfl
def adrV (x : Int × Bool) : Value := .tuple #[.int .i64 x.1, .bool x.2]
set_option maxRecDepth 100000 in
set_option maxHeartbeats 4000000 in
theorem address_none (nm pl mi : ByteArray) (kd sz add sec off : Int) (A : Option Addr) (n ca : Nat) (SA : Option Addr) (ns cs : Nat) (S : List Int) (EA : Option Addr) (ne ce : Nat) (w : World) (hn : nm = noS) :
    Calls Try.prog 12 #[.string nm, .agg #[.int .i64 kd, .int .i64 sz, .int .i64 add, .string pl, .string mi, .int .i64 sec, .int .i64 off, .slice A n ca], .slice SA ns cs, .slice EA ne ce] w (Ret (adrV (0, true)) w) := by
  have b : (nm.toList == []) = true := by rw [hn, no_list]; rfl
  clear hn
  go_enter Try.func12, Try.ntmps12
  go_wp2
  go_ret2
  exact ⟨rfl, ((Below.refl w.heap.size w).alloc (Nat.le_refl _) _).alloc (by simp) _⟩
set_option maxRecDepth 100000 in
set_option maxHeartbeats 4000000 in
theorem address_dot (nm pl mi : ByteArray) (kd sz add sec off : Int) (A : Option Addr) (n ca : Nat) (SA : Option Addr) (ns cs : Nat) (S : List Int) (EA : Option Addr) (ne ce : Nat) (w : World) (hn : nm = dotS) (hS : NRow w SA ns S) (hs : I64 sec) :
    Calls Try.prog 12 #[.string nm, .agg #[.int .i64 kd, .int .i64 sz, .int .i64 add, .string pl, .string mi, .int .i64 sec, .int .i64 off, .slice A n ca], .slice SA ns cs, .slice EA ne ce] w (Ret (adrV (wrap64 (atI S sec + off), true)) w) := by
  have b : (nm.toList == []) = false := by rw [hn, dot_list]; rfl
  have b2 : (nm.toList == [46]) = true := by rw [hn, dot_list]; rfl
  clear hn
  go_enter Try.func12, Try.ntmps12
  go_wp2
  have hBx : Below w.heap.size w ((w.alloc (.cells #[.int .i64 kd, .int .i64 sz, .int .i64 add, .string pl, .string mi, .int .i64 sec, .int .i64 off, .slice A n ca] 28)).alloc (.cells #[.slice SA ns cs] 39)) := ((Below.refl w.heap.size w).alloc (Nat.le_refl _) _).alloc (by simp) _
  have x5 : ((w.alloc (.cells #[.int .i64 kd, .int .i64 sz, .int .i64 add, .string pl, .string mi, .int .i64 sec, .int .i64 off, .slice A n ca] 28)).alloc (.cells #[.slice SA ns cs] 39)).cell? ⟨w.heap.size, 5, none⟩ = some (.int .i64 sec) := by simp [go_sem]
  have x6 : ((w.alloc (.cells #[.int .i64 kd, .int .i64 sz, .int .i64 add, .string pl, .string mi, .int .i64 sec, .int .i64 off, .slice A n ca] 28)).alloc (.cells #[.slice SA ns cs] 39)).cell? ⟨w.heap.size, 6, none⟩ = some (.int .i64 off) := by simp [go_sem]
  have x9 : ((w.alloc (.cells #[.int .i64 kd, .int .i64 sz, .int .i64 add, .string pl, .string mi, .int .i64 sec, .int .i64 off, .slice A n ca] 28)).alloc (.cells #[.slice SA ns cs] 39)).cell? ⟨w.heap.size + 1, 0, none⟩ = some (.slice SA ns cs) := by simp [go_sem]
  have hz : w.heap.size + 1 < ((w.alloc (.cells #[.int .i64 kd, .int .i64 sz, .int .i64 add, .string pl, .string mi, .int .i64 sec, .int .i64 off, .slice A n ca] 28)).alloc (.cells #[.slice SA ns cs] 39)).heap.size := by simp
  generalize ((w.alloc (.cells #[.int .i64 kd, .int .i64 sz, .int .i64 add, .string pl, .string mi, .int .i64 sec, .int .i64 off, .slice A n ca] 28)).alloc (.cells #[.slice SA ns cs] 39)) = wq at *
  have hz0 : w.heap.size < wq.heap.size := by omega
  have cat := at_gr sec hz x9 (hS.keep hBx) hs
  refine wp_region_quiet_below (by kernel_rfl) (by kernel_rfl) ?_
  repeat (go_big_quiet_step (exact gr (cat _ _)))
  refine wpQuiet_nil ?_
  intro w2 hw2
  have hb2 := of_gr hw2
  clear hw2
  go_wp2
  go_ret2
  exact ⟨by simp [adrV], bthen hBx hb2 (by omega)⟩
set_option maxRecDepth 100000 in
set_option maxHeartbeats 4000000 in
theorem address_look (nm pl mi : ByteArray) (kd sz add sec off : Int) (A : Option Addr) (n ca : Nat) (l : List Sy) (SA : Option Addr) (ns cs : Nat) (S : List Int) (EA : Option Addr) (ne ce : Nat) (E : List Int) (w : World) (h0 : nm ≠ noS) (hd : nm ≠ dotS) (hl : SRow w A n l) (hS : NRow w SA ns S) (hE : NRow w EA ne E) :
    Calls Try.prog 12 #[.string nm, .agg #[.int .i64 kd, .int .i64 sz, .int .i64 add, .string pl, .string mi, .int .i64 sec, .int .i64 off, .slice A n ca], .slice SA ns cs, .slice EA ne ce] w (Ret (adrV (adrI nm sec off l S E)) w) := by
  have b : (nm.toList == []) = false := beq_eq_false_iff_ne.2 (fun h => h0 (toList_inj (by rw [h, no_list])))
  have b2 : (nm.toList == [46]) = false := beq_eq_false_iff_ne.2 (fun h => hd (toList_inj (by rw [h, dot_list])))
  go_enter Try.func12, Try.ntmps12
  go_wp2
  have hBx : Below w.heap.size w ((w.alloc (.cells #[.int .i64 kd, .int .i64 sz, .int .i64 add, .string pl, .string mi, .int .i64 sec, .int .i64 off, .slice A n ca] 28)).alloc (.cells #[.slice SA ns cs] 39)) := ((Below.refl w.heap.size w).alloc (Nat.le_refl _) _).alloc (by simp) _
  have x5 : ((w.alloc (.cells #[.int .i64 kd, .int .i64 sz, .int .i64 add, .string pl, .string mi, .int .i64 sec, .int .i64 off, .slice A n ca] 28)).alloc (.cells #[.slice SA ns cs] 39)).cell? ⟨w.heap.size, 5, none⟩ = some (.int .i64 sec) := by simp [go_sem]
  have x6 : ((w.alloc (.cells #[.int .i64 kd, .int .i64 sz, .int .i64 add, .string pl, .string mi, .int .i64 sec, .int .i64 off, .slice A n ca] 28)).alloc (.cells #[.slice SA ns cs] 39)).cell? ⟨w.heap.size, 6, none⟩ = some (.int .i64 off) := by simp [go_sem]
  have x9 : ((w.alloc (.cells #[.int .i64 kd, .int .i64 sz, .int .i64 add, .string pl, .string mi, .int .i64 sec, .int .i64 off, .slice A n ca] 28)).alloc (.cells #[.slice SA ns cs] 39)).cell? ⟨w.heap.size + 1, 0, none⟩ = some (.slice SA ns cs) := by simp [go_sem]
  have hz : w.heap.size + 1 < ((w.alloc (.cells #[.int .i64 kd, .int .i64 sz, .int .i64 add, .string pl, .string mi, .int .i64 sec, .int .i64 off, .slice A n ca] 28)).alloc (.cells #[.slice SA ns cs] 39)).heap.size := by simp
  generalize ((w.alloc (.cells #[.int .i64 kd, .int .i64 sz, .int .i64 add, .string pl, .string mi, .int .i64 sec, .int .i64 off, .slice A n ca] 28)).alloc (.cells #[.slice SA ns cs] 39)) = wq at *
  have hz0 : w.heap.size < wq.heap.size := by omega
  obtain ⟨hl1, hl2, hl3, hl4⟩ := hl
  have hm : n ≤ 9223372036854775807 := hl2
  go_loopw [28] (fun i wa => ∃ k : Nat, k ≤ n ∧ i = .int .i64 k ∧ Below wq.heap.size wq wa ∧ (∀ j (hj : j < l.length), j < k → l[j].1 ≠ nm)) (fun i _ => (n - intOf i).toNat)
  case atStart => exact ⟨0, by omega, rfl, Below.refl _ _, fun j hj h => by omega⟩
  case round =>
    obtain ⟨k, hk, rfl, hB, hno⟩ := hrel
    by_cases hlt : k < n
    · obtain ⟨bs, os, rfl, hbs, hc⟩ := hl4 (by omega)
      obtain ⟨y0, y1, y2, y3⟩ := hc k (by omega)
      have hbs2 : bs < wq.heap.size := by omega
      replace y0 := (hB.cell (p := ⟨bs, os + k * 4, none⟩) hbs2).trans ((hBx.cell (p := ⟨bs, os + k * 4, none⟩) hbs).trans y0)
      replace y1 := (hB.cell (p := ⟨bs, os + k * 4 + 1, none⟩) hbs2).trans ((hBx.cell (p := ⟨bs, os + k * 4 + 1, none⟩) hbs).trans y1)
      replace y2 := (hB.cell (p := ⟨bs, os + k * 4 + 2, none⟩) hbs2).trans ((hBx.cell (p := ⟨bs, os + k * 4 + 2, none⟩) hbs).trans y2)
      replace y3 := (hB.cell (p := ⟨bs, os + k * 4 + 3, none⟩) hbs2).trans ((hBx.cell (p := ⟨bs, os + k * 4 + 3, none⟩) hbs).trans y3)
      clear hc hl4
      by_cases he : l[k].1 = nm
      · have b3 : (l[k].1.toList == nm.toList) = true := by rw [he]; exact beq_self_eq_true _
        have e2 := fnd_hit l 0 k (by omega) hno he
        clear hno
        have hsI : I64 l[k].2.1 := (hl3 l[k] (List.getElem_mem (by omega))).1
        generalize l[k] = s at *
        rw [Nat.zero_add] at e2
        rw [adrI_hit h0 hd e2]
        clear e2 h0 hd hl3
        by_cases hm1 : s.2.1 = -1
        · have bm : (s.2.1 == -1) = true := by rw [hm1]; rfl
          rw [if_pos hm1]
          obtain ⟨hE1, hE2, hE3, hE4⟩ := hE
          rcases Nat.eq_zero_or_pos ne with hne | hne
          · subst hne
            obtain rfl : E = [] := List.length_eq_zero_iff.1 hE1
            clear hE4
            go_wp2
            go_ret2
            exact ⟨by simp [adrV], bthen hBx (hB.alloc hB.size _) (by omega)⟩
          · obtain ⟨be, oe, rfl, hlt2, hce⟩ := hE4 hne
            have hk2 : k % E.length < E.length := Nat.mod_lt _ (by omega)
            have hcl := (hB.cell (p := ⟨be, oe + k % E.length, none⟩) (by show be < _; omega)).trans ((hBx.cell (p := ⟨be, oe + k % E.length, none⟩) hlt2).trans (hce _ hk2))
            have hv : E.getD (k % E.length) 0 = E[k % E.length] := by rw [List.getD_eq_getElem?_getD, List.getElem?_eq_getElem hk2]; rfl
            rw [hv]
            clear hv hce hE4 hE3
            generalize E[k % E.length] = v at *
            have ht : (k : Int) % (ne : Int) = ((k % E.length : Nat) : Int) := by rw [hE1]; simp
            have hk3 : k % E.length < ne := by omega
            have bn : ((ne : Int) == 0) = false := by simp; omega
            generalize k % E.length = q at *
            have hcl := cell_up (.cells #[.string nm, .int .i64 (-1), .int .i64 s.2.2.1, .bool s.2.2.2] 44) hcl
            go_wp2
            go_ret2
            exact ⟨by simp [adrV], bthen hBx (hB.alloc hB.size _) (by omega)⟩
        · have bm : (s.2.1 == -1) = false := by simp [hm1]
          rw [if_neg hm1]
          have hz4 : w.heap.size + 1 < wr.heap.size := by have := hB.size; omega
          have x9r := (hB.cell (p := ⟨w.heap.size + 1, 0, none⟩) (by show w.heap.size + 1 < _; omega)).trans x9
          go_wp2
          have y1' : (wr.alloc (.cells #[.string nm, .int .i64 s.2.1, .int .i64 s.2.2.1, .bool s.2.2.2] 44)).cell? ⟨wr.heap.size, 1, none⟩ = some (.int .i64 s.2.1) := by simp [go_sem]
          have y2' : (wr.alloc (.cells #[.string nm, .int .i64 s.2.1, .int .i64 s.2.2.1, .bool s.2.2.2] 44)).cell? ⟨wr.heap.size, 2, none⟩ = some (.int .i64 s.2.2.1) := by simp [go_sem]
          have x9s := cell_up (.cells #[.string nm, .int .i64 s.2.1, .int .i64 s.2.2.1, .bool s.2.2.2] 44) x9r
          have hBs : Below wq.heap.size wq (wr.alloc (.cells #[.string nm, .int .i64 s.2.1, .int .i64 s.2.2.1, .bool s.2.2.2] 44)) := hB.alloc hB.size _
          have hzs : wr.heap.size < (wr.alloc (.cells #[.string nm, .int .i64 s.2.1, .int .i64 s.2.2.1, .bool s.2.2.2] 44)).heap.size := by simp
          generalize (wr.alloc (.cells #[.string nm, .int .i64 s.2.1, .int .i64 s.2.2.1, .bool s.2.2.2] 44)) = ws at *
          have hsz := hBs.size
          have cat := at_gr s.2.1 (show w.heap.size + 1 < ws.heap.size by omega) x9s ((hS.keep hBx).keep hBs) hsI
          refine wp_region_quiet_below (by kernel_rfl) (by kernel_rfl) ?_
          repeat (go_big_quiet_step (exact gr (cat _ _)))
          refine wpQuiet_nil ?_
          intro w2 hw2
          have hb2 := of_gr hw2
          clear hw2
          go_wp2
          go_ret2
          exact ⟨by simp [adrV], bthen hBx (bthen hBs hb2 (by omega)) (by omega)⟩
      · have b3 : (l[k].1.toList == nm.toList) = false := beq_eq_false_iff_ne.2 (fun h => he (toList_inj h))
        replace hno := Lib.hid hno
        replace he := Lib.hid he
        go_wp2
        go_roundw
        case rel =>
          refine ⟨k + 1, by omega, by simp, hB.alloc hB.size _, fun j hj h => ?_⟩
          by_cases hjk : j = k
          · subst hjk; exact he.out
          · exact hno.out j hj (by omega)
        case measure => simp [intOf]; omega
    · obtain rfl : k = n := by omega
      have e2 : fnd nm l 0 = none := fnd_miss l 0 (fun j hj => hno j hj (by omega))
      clear hno hl4
      go_wp2
      go_ret2
      exact ⟨by rw [adrI_miss h0 hd e2]; simp [adrV], bthen hBx hB (by omega)⟩
theorem address_any (nm pl mi : ByteArray) (kd sz add sec off : Int) (A : Option Addr) (n ca : Nat) (l : List Sy) (SA : Option Addr) (ns cs : Nat) (S : List Int) (EA : Option Addr) (ne ce : Nat) (E : List Int) (w : World) (hl : SRow w A n l) (hS : NRow w SA ns S) (hE : NRow w EA ne E) (hs : I64 sec) :
    Calls Try.prog 12 #[.string nm, .agg #[.int .i64 kd, .int .i64 sz, .int .i64 add, .string pl, .string mi, .int .i64 sec, .int .i64 off, .slice A n ca], .slice SA ns cs, .slice EA ne ce] w (Ret (adrV (adrI nm sec off l S E)) w) := by
  by_cases h0 : nm = noS
  · have e : adrI nm sec off l S E = (0, true) := by unfold adrI part; rw [if_pos h0]
    rw [e]
    exact address_none nm pl mi kd sz add sec off A n ca SA ns cs S EA ne ce w h0
  · by_cases hd : nm = dotS
    · have e : adrI nm sec off l S E = (wrap64 (atI S sec + off), true) := by unfold adrI part look; rw [if_neg h0, if_pos hd]; rfl
      rw [e]
      exact address_dot nm pl mi kd sz add sec off A n ca SA ns cs S EA ne ce w hd hS hs
    · exact address_look nm pl mi kd sz add sec off A n ca l SA ns cs S EA ne ce E w h0 hd hl hS hE
theorem nrow_of {w : World} {A : Option Addr} {n : Nat} {rows : List (List Value)} (hm : n ≤ maxLen) (h : RowsOf w A n [isInt .i64] rows) : ∃ l, NRow w A n l := by
  obtain ⟨h1, h2, h3⟩ := h
  have form : ∀ r ∈ rows, ∃ a, r = [.int .i64 a] ∧ I64 a := fun r hr => by
    obtain ⟨v0, r1, rfl, ⟨a, rfl, wa⟩, q1⟩ := fits_cons (h2 r hr)
    obtain rfl := fits_nil q1
    exact ⟨a, rfl, i64_wf wa⟩
  refine ⟨rows.map fun r => numOf (r.getD 0 undef), by simpa using h1, hm, fun f hf => ?_, fun hn => ?_⟩
  · obtain ⟨r, hr, rfl⟩ := List.mem_map.1 hf
    obtain ⟨a, rfl, ia⟩ := form r hr
    exact ia
  · obtain ⟨b, off, rfl, hb, hc⟩ := h3 hn
    refine ⟨b, off, rfl, hb, fun k hk => ?_⟩
    have hk' : k < rows.length := by simpa using hk
    obtain ⟨x, e, ix⟩ := form rows[k] (List.getElem_mem hk')
    have c0 := hc k hk' 0 (by simp)
    simp only [List.length_cons, List.length_nil, Nat.zero_add, Nat.add_zero, Nat.mul_one] at c0
    rw [e] at c0
    rw [List.getElem_map, e]
    exact c0
end Go.Proofs.Ytddfafapahnaaaa
