/- PROVED: DecBytes returns true for any bytes and any number; the arguments read behind the call as they read before. No condition. -/
import Derived.Test.YtopfaapcekiojaaGreatByteF
import Derived.Handy
import Derived.ProofKit
import Derived.OpenShut
import Derived.Lib.SmallJoins
namespace Go.Proofs.YtopfaapcekiojaaGreat.lawDecBytes
open Go.ChangeShapes Go.WideShapes Go.ChangeAt Go.RowKit Go.Sort Go.Joins Sym Two
attribute [local go_sem] cell_gr frozen_gr
set_option linter.unusedVariables false

def bNum : Value → Int
  | .int _ a => a
  | _ => 0
theorem brow_of {w : World} {A : Option Addr} {n : Nat} {rows : List (List Value)} (h : RowsOf w A n [isInt .u8] rows) : ∃ l, BRow w A n l := by
  obtain ⟨h1, h2, h3⟩ := h
  have form : ∀ r ∈ rows, ∃ a, r = [.int .u8 a] ∧ 0 ≤ a ∧ a < 256 := fun r hr => by
    obtain ⟨v0, r1, rfl, ⟨a, rfl, wa⟩, q1⟩ := fits_cons (h2 r hr)
    obtain rfl := fits_nil q1
    exact ⟨a, rfl, u8_wf wa⟩
  refine ⟨rows.map fun r => bNum (r.getD 0 undef), by simpa using h1, fun f hf => ?_, fun hn => ?_⟩
  · obtain ⟨r, hr, rfl⟩ := List.mem_map.1 hf
    obtain ⟨a, rfl, ia⟩ := form r hr
    exact ia
  · obtain ⟨b, off, rfl, hb, hc⟩ := h3 hn
    refine ⟨b, off, rfl, hb, fun k hk => ?_⟩
    have hk' : k < rows.length := by simpa using hk
    obtain ⟨x, e, ix⟩ := form rows[k] (List.getElem_mem hk')
    have c0 := hc k hk' 0 (by simp)
    simp only [List.length_cons, List.length_nil, Nat.zero_add, Nat.add_zero, Nat.mul_one] at c0
    rw [e] at c0
    rw [List.getElem_map, e]
    exact c0
theorem few_any (A : Option Addr) (n ca : Nat) (w : World) (hn : n ≤ maxLen) : Calls Tryz.prog 14 #[.slice A n ca] w (Ret (.bool (decide ((n : Int) ≤ 2000))) w) := by
  have m1 : (maxLen : Nat) ≤ 9223372036854775807 := by decide
  go_enter Tryz.func14, Tryz.ntmps14
  go_wp2
  go_ret
  exact ⟨rfl, Below.refl _ _⟩
theorem told_any (m : Int) (hm : I64 m) (Bw : Nat) (A : Option Addr) (nb cb : Nat) (l : List Int) (hl : Bys l) (w : World) (hb : Bw < w.heap.size) (hc : w.cell? ⟨Bw, 0, none⟩ = some (.slice A nb cb)) (hrow : BRowB w.heap.size w A nb l) (hnb : nb ≤ cb ∧ nb ≤ 2000) :
    Calls Tryz.prog 16 #[.func (.func 37) #[] #[.pointer (some ⟨Bw, 0, none⟩)], .int .i64 m] w (ToldB w ((bxL l hl (nb / 4)).take m.toNat)) :=
  (callsIn_wide (n := 4)).1 (told_in m hm Bw A nb cb l hl w hb hc hrow hnb)
set_option maxRecDepth 100000 in
set_option maxHeartbeats 4000000 in
theorem walk (A : Option Addr) (n ca : Nat) (l : List Int) (mo : Int) (w : World) (hr : BRow w A n l) (hm : n ≤ maxLen) (hmo : 0 ≤ mo ∧ mo < 256) :
    Calls Tryz.prog 5 #[.slice A n ca, .int .u8 mo] w (Ret (.bool true) w) := by
  have hl : Bys l := hr.2.1
  by_cases hn : n ≤ 2000
  · have hfew := few_any A n ca
    rw [show decide ((n : Int) ≤ 2000) = true by simp; omega] at hfew
    have i9 : I64 9999 := ⟨by decide, by decide⟩
    have im : I64 mo := ⟨by omega, by omega⟩
    have iw : IntKind.i64.wrap mo = mo := by rw [IntWalk.i64_left]; exact IntWalk.wrap64_in _ (by omega)
    obtain ⟨nc, e0, hnc, he0, hcA, hcR⟩ := counts A n ca l hl hn
    have e9 : List.take (Int.toNat 9999) (bxL l hl (n / 4)) = bxL l hl (n / 4) := List.take_of_length_le (by rw [bxL_len]; show n / 4 ≤ 9999; omega)
    have htk : (List.take mo.toNat (bxL l hl (n / 4))).length = min mo.toNat (n / 4) := by rw [List.length_take, bxL_len]
    have hmm : min mo.toNat (n / 4) ≤ n / 4 := by omega
    have hs1 := fun j hj => wds_same l hl (n / 4) (n / 4) j hj (Nat.le_refl _)
    rw [List.take_of_length_le (by rw [bxL_len]; omega)] at hs1
    have hs3 : ∀ j, j < min mo.toNat (n / 4) → ∃ a, (wdVs ((bxL l hl (n / 4)).take mo.toNat))[j]? = some (.int .u32 a) ∧ (wdsK l (n / 4))[j]? = some (.int .u32 a) := fun j hj => by
      have := wds_same l hl (n / 4) (min mo.toNat (n / 4)) j hj hmm
      rwa [show List.take (min mo.toNat (n / 4)) (bxL l hl (n / 4)) = List.take mo.toNat (bxL l hl (n / 4)) by rw [List.take_eq_take_iff, bxL_len]; omega] at this
    have hsn : ∀ j, j < nc → ∃ a, (rowC (bxL l hl (n / 4)))[j]? = some (.int .i64 a) ∧ (rowC (bxL l hl (n / 4)))[j]? = some (.int .i64 a) := fun j hj => ⟨_, rowC_get _ j (by omega), rowC_get _ j (by omega)⟩
    obtain ⟨q, hq⟩ : ∃ q, min mo.toNat (n / 4) = q := ⟨_, rfl⟩
    obtain ⟨m, hmN⟩ : ∃ m, n / 4 = m := ⟨_, rfl⟩
    have hmin : min (m : Int) mo = (q : Int) := by omega
    rw [hq] at hmm htk hs3
    rw [hmN] at hs1 hs3 hsn hmm e9 htk hcA hcR
    have hm5 : m ≤ 500 := by omega
    replace hs1 := Lib.hid hs1
    replace hs3 := Lib.hid hs3
    replace hsn := Lib.hid hsn
    replace hmm := Lib.hid hmm
    replace e9 := Lib.hid e9
    replace htk := Lib.hid htk
    go_enter Tryz.func5, Tryz.ntmps5
    go_wp2_with (first
      | (go_at_call 10; refine (begun_any _).mono ?_; rintro e wA ⟨rfl, hB⟩)
      | (go_at_call 14; refine (hfew _ hm).mono ?_; rintro e wA ⟨rfl, hbA⟩; replace hB := bthen hB hbA hB.size)
      | (go_at_call 15; refine (rwds_any A n ca l _ (hr.keep hB) hn).mono ?_; rintro e wA ⟨vl, rfl, hrl, hbA⟩; have hzl := hB.size; replace hB := bthen hB hbA hB.size)
      | (go_at_call 17; refine (dall_any A n ca l _ (hr.keep hB) hn).mono ?_; rintro e wB ⟨Bw, AA, cb, rfl, hbB, hBw, hcB, hcb, hrB, _, _⟩; replace hB := bthen hB hbB hB.size; replace hrl := row_below' hrl hbB; (try replace h11 := row_below' h11 hbB); (try replace h12 := row_below' h12 hbB))
      | (go_at_call 16; first
          | (have hgd := h11; clear hgd; refine (told_any mo im Bw AA n cb l hl _ hBw hcB hrB ⟨hcb, hn⟩).mono ?_; rintro e wC ⟨v3, v4, rfl, h21, h22, hbC⟩; replace hB := bthen hB hbC hB.size; replace hrl := row_below' hrl hbC; replace h11 := row_below' h11 hbC; replace h12 := row_below' h12 hbC)
          | (refine (told_any 9999 i9 Bw AA n cb l hl _ hBw hcB hrB ⟨hcb, hn⟩).mono ?_; rintro e wC ⟨v1, v2, rfl, h11, h12, hbC⟩; replace hB := bthen hB hbC hB.size; replace hrl := row_below' hrl hbC))
      | (go_at_call 18; refine (hcA _ (hr.keep hB)).mono ?_; rintro e wD ⟨vn, rfl, hrn, hbD⟩; replace hB := bthen hB hbD hB.size; replace hrl := row_below' hrl hbD; replace h11 := row_below' h11 hbD; replace h12 := row_below' h12 hbD; replace h21 := row_below' h21 hbD)
      | (go_at_call 19; refine (hcR _ (hr.keep hB)).mono ?_; rintro e wE ⟨vm, rfl, hrm, hbE⟩; replace hB := bthen hB hbE hB.size; replace hrl := row_below' hrl hbE; replace h11 := row_below' h11 hbE; replace h12 := row_below' h12 hbE; replace h21 := row_below' h21 hbE; replace hrn := hrn.keep hbE;
          rw [hmN] at h11 h12 h21 hrl; rw [e9.out] at h11 h12; rw [htk.out] at h21; rw [bxL_len] at h11 h12;
          have E1 := rowE_own h11 (by omega); have E2 := rowE_own hrl (by omega); have E3 := rowE_own h21 (by omega);
          clear h22 hcA hcR hfew hbE; have HI := rowI_own h12; obtain ⟨Ax, cx, rfl, _⟩ := id HI; clear h12;
          have ecap := own_cap hrl; obtain ⟨Al, cl, rfl, _, _⟩ := id E2; replace ecap := ecap _ _ rfl; have hqc : q ≤ cl := Nat.le_trans hmm.out ecap; obtain ⟨An, cn, rfl, _, _⟩ := id hrn)
      | (go_at_call 20; first
          | (refine (wd_equal _ _ _ _ _ _ E1 E2 hs1.out).mono ?_; rintro e wF ⟨rfl, hbF⟩; replace hB := bthen hB hbF hB.size; replace HI := HI.keep hbF; replace E2 := E2.keep hbF; replace E3 := E3.keep hbF; replace hrn := hrn.keep hbF; replace hrm := hrm.keep hbF)
          | (refine (wd_equal _ _ _ _ _ _ E3 (rowE_take E2 hmm.out) hs3.out).mono ?_; rintro e wG ⟨rfl, hbG⟩; replace hB := bthen hB hbG hB.size; replace HI := HI.keep hbG; replace E2 := E2.keep hbG; replace hrn := hrn.keep hbG; replace hrm := hrm.keep hbG))
      | (go_at_call 21; refine (int_equal _ _ _ _ _ _ hrn hrm hsn.out).mono ?_; rintro e wI ⟨rfl, hbI⟩; replace hB := bthen hB hbI hB.size; replace HI := HI.keep hbI; replace E2 := E2.keep hbI; replace hrn := hrn.keep hbI))
    clear hs1 hs3 hsn e9 htk E1 E3 h11 h21 hrl hrm
    go_loopw [84] (fun i wr => ∃ k : Nat, k ≤ m ∧ i = .int .i64 k ∧ RowE wr (.slice Al m cl) m (wdsK l m) ∧ RowI wr (.slice Ax m cx) m l ∧ RowE wr (.slice An nc cn) nc (rowC (bxL l hl m)) ∧ Below w.heap.size w wr) (fun i _ => (m - (RowKit.intOf i).toNat))
    case atStart => exact ⟨0, by omega, rfl, E2, HI, hrn, hB⟩
    case round =>
      clear hrn HI E2 hB
      obtain ⟨k, hk, rfl, hE, hI, hN, hB⟩ := hrel
      by_cases hlt : k < m
      · obtain ⟨_, _, e1, _, q1⟩ := id hE
        obtain ⟨gl, hAl, hgl, hcl⟩ := q1 (by omega)
        cases e1
        subst hAl
        obtain ⟨_, _, e2, q2⟩ := id hI
        obtain ⟨gx, hAx, hgx, hcx⟩ := q2 (by omega)
        cases e2
        subst hAx
        have x0 : wr.cell? ⟨gl, k, none⟩ = some (.int .u32 (wdOf l k)) := by
          rw [hcl k hlt]
          simp [wdsK, hlt]
        have hck := hcx k hlt
        have hkm : k < maxLen := by unfold maxLen; omega
        have hdc := (d_is (wdOf l k) (wdOf_u32 hl k)).2.2.2.2
        rw [val_cells'] at hdc
        clear hcl hcx q1 q2
        generalize hyv : dY (wdOf l k) = y at *
        generalize dZ (wdOf l k) = z at *
        generalize wdOf l k = v at *
        clear hyv
        go_wp2_with (first
          | (refine wpList_load_mid rfl 24 _ rfl gx (k * 10) rfl (cellsI' y) _ hck Tryz.underlying24 rfl (by kernel_rfl) ?_)
          | (refine wpList_store_row rfl 24 _ _ rfl w2.heap.size (cellsI' y).toArray rfl rfl 24 _ (World.alloc_heap_new _ _) (by kernel_rfl) (by simp [cellsI']) (by simp [cellsI', Value.oneCell']) ?_; rw [World.setRow_alloc_new])
          | (refine wpList_store_row rfl 24 _ _ rfl wr.heap.size (cellsI' y).toArray rfl rfl 24 _ (World.alloc_heap_new _ _) (by kernel_rfl) (by simp [cellsI']) (by simp [cellsI', Value.oneCell']) ?_; rw [World.setRow_alloc_new])
          | (have hg2 := hz2; clear hg2; first
            | (refine wpList_load_row rfl 24 _ rfl wr.heap.size rfl 24 (#[.int .i64 y.op, .bool y.x, .bool y.s, .int .i64 y.rd, .int .i64 y.rn, .int .i64 y.rm, .int .i64 y.ra, .int .i64 y.a, .int .i64 y.b, .int .i64 y.c] : Array Value) (0, 0) _ ((((Below.refl w2.heap.size w2).alloc (Nat.le_refl _) _).block _ hz2).trans hx2) Tryz.underlying24 rfl (by kernel_rfl) ?_)
            | (refine wpList_load_row rfl 24 _ rfl w2.heap.size rfl 24 (#[.int .i64 y.op, .bool y.x, .bool y.s, .int .i64 y.rd, .int .i64 y.rn, .int .i64 y.rm, .int .i64 y.ra, .int .i64 y.a, .int .i64 y.b, .int .i64 y.c] : Array Value) (0, 0) _ (World.alloc_heap_new _ _) Tryz.underlying24 rfl (by kernel_rfl) ?_))
          | (go_at_call 9; refine (hdc _).mono ?_; rintro e w2 ⟨rfl, hb2⟩; have hB2 := bthen (hB.alloc hB.size (.cells (cellsI' y).toArray 24)) hb2 (by rw [World.size_alloc]; have := hB.size; omega); have hx2 := (hb2.block wr.heap.size (by simp)).trans (World.alloc_heap_new wr _); have hz2 : wr.heap.size < w2.heap.size := (by have := hb2.size; rw [World.size_alloc] at this; omega)))
        have hbV : Below wr.heap.size wr (w2.alloc (.cells (cellsI' y).toArray 24)) := (bthen ((Below.refl wr.heap.size wr).alloc (Nat.le_refl _) _) hb2 (by simp)).alloc (Nat.le_of_lt hz2) _
        refine ⟨⟨k + 1, by omega, by simp, hE.keep hbV, hI.keep hbV, hN.keep hbV, bthen hB hbV hB.size⟩, by simp [RowKit.intOf]; omega⟩
      · obtain rfl : k = m := by omega
        go_wp2
        generalize hLL : bxL l hl k = L at *
        have hLn : L.length = k := by rw [← hLL]; exact bxL_len _ _ _
        clear hI hLL
        go_loopw [18, 103] (fun t i ws => ∃ c : Nat, c ≤ nc ∧ i = .int .i64 c ∧ t = .int .i64 (sumC L c) ∧ RowE ws (.slice An nc cn) nc (rowC L) ∧ Below w.heap.size w ws) (fun _ i _ => (nc - (RowKit.intOf i).toNat))
        case atStart => exact ⟨0, by omega, rfl, rfl, hN, hB⟩
        case round =>
          clear hN hB hE
          obtain ⟨c, hc, rfl, rfl, hN, hB⟩ := hrel
          by_cases hcl : c < nc
          · obtain ⟨_, _, e1, _, q1⟩ := id hN
            obtain ⟨gn, hAn, hgn, hcn⟩ := q1 (by omega)
            cases e1
            subst hAn
            have x0 : wr.cell? ⟨gn, c, none⟩ = some (.int .i64 (cntX L c)) := by
              rw [hcn c hcl, rowC_get _ c (by omega)]
            have s1 := sumC_le L c
            have s2 := cntX_le L c
            have s3 : c * L.length ≤ 33 * 500 := Nat.mul_le_mul (by omega) (by omega)
            have hw1 : wrap64 (((sumC L c : Nat) : Int) + ((cntX L c : Nat) : Int)) = ((sumC L c : Nat) : Int) + ((cntX L c : Nat) : Int) := IntWalk.wrap64_in _ (by omega)
            have hnx : Hid (sumC L (c + 1) = sumC L c + cntX L c) := Lib.hid rfl
            clear hcn q1
            generalize sumC L c = sa at *
            generalize cntX L c = sb at *
            go_wp2
            refine ⟨⟨c + 1, by omega, by simp, by rw [hnx.out]; simp; exact hw1, hN, hB⟩, by simp [RowKit.intOf]; omega⟩
          · obtain rfl : c = nc := by omega
            rcases he0 with ⟨rfl, rfl⟩ | rfl
            · rw [sumC_all, hLn]
              go_wp2
              go_ret
              exact ⟨by simp, hB⟩
            · go_wp2
              go_ret
              exact ⟨by simp, hB⟩
  · have hfew := few_any A n ca
    rw [show decide ((n : Int) ≤ 2000) = false by simp; omega] at hfew
    go_enter Tryz.func5, Tryz.ntmps5
    go_wp2_with (first
      | (go_at_call 14; refine (hfew _ hm).mono ?_; rintro e wA ⟨rfl, hbA⟩; replace hB := bthen hB hbA hB.size)
      | (go_at_call 10; first
        | (have hgd := hB; clear hgd; refine (begun_any _).mono ?_; rintro e wA ⟨rfl, hbA⟩; replace hB := bthen hB hbA hB.size)
        | (refine (begun_any _).mono ?_; rintro e wA ⟨rfl, hB⟩)))
    go_ret
    exact ⟨rfl, hB⟩
theorem own : ownKnob Tryz.prog.godebug = none := by kernel_rfl
theorem laidOut : laidOutB Tryz.prog = true := by kernel_rfl
set_option maxRecDepth 100000 in
theorem lifted (os : Os) (started : os.Started) (H : Type) (enc : TypeId × Value → H) :
    ReturnsInHanded {} Tryz.checked os 5 .any (Rows.decBytesSpec.pre6 enc Tryz.prog Tryz.f5 Rows.decBytesRow.domain false) (Rows.decBytesSpec.post enc Tryz.prog Tryz.f5 false true false false) := by
  refine returnsInHanded_of_change (C := Tryz.checked) own started (by kernel_rfl) Tryz.func5
    (ChangeSpec.witness6 (enc := enc) (C := Tryz.checked) false ⟨#[], #[.slice none 0 0, .int .u8 0], []⟩ 8 (by kernel_rfl) (by kernel_rfl) (by kernel_rfl) (by kernel_rfl)) ?_
  intro W base args ds gs before hval0 hW hcnd _
  have hval : ∀ (j : Nat) t v, Tryz.f5.params[j]? = some t → args[j]? = some v → Value.okWide Tryz.prog W .any base t v := hval0
  have hW' := hW
  obtain ⟨p, q, hA0, hV, rfl, hfz, hnd⟩ := hW
  have hA : DataW.TrodAll enc Tryz.prog W 0 (fun _ => true) true Tryz.f5.params.toList args.toList ds p := hA0
  rw [Tryz.params5] at hA hval
  obtain ⟨v0, vs0, d0, ds0, p0, q0, hargs, rfl, rfl, h0, r0⟩ := trodAll_cons hA
  obtain ⟨v1, vs1, d1, ds1, p1, q1, rfl, rfl, rfl, h1, r1⟩ := trodAll_cons r0
  obtain ⟨rfl, rfl, rfl⟩ := trodAll_nil r1
  obtain rfl : args = #[v0, v1] := by cases args; simp_all
  obtain ⟨rfl, rfl⟩ := trodVars_none hV
  have k0 := h0
  have k1 := h1
  have lt0 : ∀ x ∈ p0, x.block < W.heap.size := by obtain ⟨m, hm⟩ := k0; exact DataW.trod_lt m _ _ _ hm
  have lt1 : ∀ x ∈ p1, x.block < W.heap.size := by obtain ⟨m, hm⟩ := k1; exact DataW.trod_lt m _ _ _ hm
  obtain ⟨A0, n0, c0, rfl⟩ := okWide_slice Tryz.underlying36 (hval 0 36 v0 rfl rfl)
  obtain ⟨rows0, hr0, hm0⟩ := open_rows Tryz.underlying36 (flat_int Tryz.underlying5) (by kernel_rfl) (by decide) h0
  obtain ⟨l0, hl0⟩ := brow_of hr0
  obtain ⟨a1, rfl, _, _, w1⟩ := open_int Tryz.underlying5 (hval 1 5 v1 rfl rfl) h1
  clear hA0 hval0
  refine (walk A0 n0 c0 l0 a1 W hl0 hm0 (u8_wf w1)).mono fun e W' ⟨he, bel⟩ => ?_
  subst he
  exact ⟨_, rfl, _, _, _, [], _, [], hW', trodAll_mk1 (shut_bool Tryz.underlying4 _), (trodAll_cons_mk (Below.trod laidOut (by kernel_rfl) (of_decide_eq_true (by kernel_rfl)) k0 bel lt0) (trodAll_cons_mk (Below.trod laidOut (by kernel_rfl) (of_decide_eq_true (by kernel_rfl)) k1 bel lt1) trodAll_mk0)), rfl, bel.frame _, fun h => by cases h⟩

theorem proved : Rows.DecBytesSaid :=
  OpenClaim.holds_of_wide 5 Tryz.f5 rfl rfl rfl rfl rfl rfl rfl ⟨rfl, rfl, rfl, rfl, rfl⟩ rfl rfl rfl rfl rfl (by kernel_rfl) Tryz.func5 (by kernel_rfl)
    (of_decide_eq_true (by kernel_rfl)) (by unfold Func.isWrapper; first | (rw [if_pos (by decide +kernel)]; kernel_rfl) | (rw [if_neg (by decide +kernel)]; exact ⟨rfl, rfl⟩))
    (fun os started H enc _ => lifted os started H enc)

#print axioms proved
end Go.Proofs.YtopfaapcekiojaaGreat.lawDecBytes
