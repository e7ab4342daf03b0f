/- PROVED: BitsBack returns true for every word, every field and every value; each argument reads behind the call as it read before. No condition. -/
import Derived.Test.YtjojflodhghdbaaLaw01L
import Derived.Test.YtjojflodhghdbaaPackW
import Derived.Test.YtjojflodhghdbaaEachW
import Derived.Test.YtjojflodhghdbaaWordW
namespace Go.Proofs.Ytjojflodhghdbaa.lawBitsBack
open Go.ChangeShapes Go.WideShapes Go.ChangeAt Go.RowKit Go.Sort Go.Joins
attribute [local go_sem] cell_gr frozen_gr
set_option linter.unusedVariables false

theorem putE_zero {lo wd v : Int} (h : putE lo wd v = 0) : liesB lo wd = true ∧ putOk wd v = true := by
  unfold putE at h
  split at h
  · rename_i h1
    split at h
    · rename_i h2; exact ⟨h1, h2⟩
    · cases h
  · cases h
/-- a bit that is not a field's is what it was -/
theorem put_bit (x lo wd v : Int) (h : liesB lo wd = true) (h' : putOk wd v = true) (p : Nat) : (putI x lo wd v).toNat.testBit p = if lo.toNat ≤ p ∧ p < lo.toNat + wd.toNat then v.toNat.testBit (p - lo.toNat) else x.toNat.testBit p := by
  rw [putI_of h h', Int.toNat_natCast]
  exact putN_bit _ _ _ _ _ (by simpa [putOk] using h')
theorem get_back (x lo wd v : Int) (hv : U32 v) (h : liesB lo wd = true) (h' : putOk wd v = true) : getI (putI x lo wd v) lo wd = v := by
  rw [getI_of h, putI_of h h', Int.toNat_natCast, get_put _ _ _ _ (by simpa [putOk] using h')]
  exact Int.toNat_of_nonneg hv.1
theorem xor_bit_zero (a b : Int) (ha : U32 a) (hb : U32 b) (i : Nat) (h : a.toNat.testBit i = b.toNat.testBit i) :
    bits BinOp.and IntKind.u32 (bits BinOp.xor IntKind.u32 a b / 2 ^ i) 1 = 0 := by
  obtain ⟨a1, a2⟩ := ha
  obtain ⟨b1, b2⟩ := hb
  have hx : a.toNat ^^^ b.toNat < 2 ^ 32 := Nat.xor_lt_two_pow (by omega) (by omega)
  have hd : (a.toNat ^^^ b.toNat) / 2 ^ i < 2 ^ 32 := Nat.lt_of_le_of_lt (Nat.div_le_self _ _) hx
  rw [u32_xor a b a1 a2 b1 b2, ipow, ← Int.natCast_ediv, show (1 : Int) = ((1 : Nat) : Int) from rfl, u32_and_nat _ 1 hd (by decide), Nat.and_one_is_mod]
  have ht : (a.toNat ^^^ b.toNat).testBit i = false := by rw [Nat.testBit_xor, h]; simp
  rw [Nat.testBit_eq_decide_div_mod_eq] at ht
  have := of_decide_eq_false ht
  omega
theorem four_row (x : Int) (g : Nat) (W : World) (h : Four W g (byteI x)) (hg : g < W.heap.size) : BRow W (some ⟨g, 0, none⟩) 4 [byteI x 0, byteI x 1, byteI x 2, byteI x 3] := by
  refine ⟨rfl, fun v hv => ?_, fun _ => ⟨g, 0, rfl, hg, fun k hk => ?_⟩⟩
  · simp at hv
    rcases hv with rfl | rfl | rfl | rfl <;> exact byteI_bd x _
  · have hk' : k = 0 ∨ k = 1 ∨ k = 2 ∨ k = 3 := by simp at hk; omega
    rcases hk' with rfl | rfl | rfl | rfl
    · exact (h 0 (by decide)).1
    · exact (h 1 (by decide)).1
    · exact (h 2 (by decide)).1
    · exact (h 3 (by decide)).1
theorem word_bytes (x : Int) (hx : U32 x) : wordI [byteI x 0, byteI x 1, byteI x 2, byteI x 3] = x := by
  obtain ⟨h1, h2⟩ := hx
  unfold wordI
  simp [wordN, byteI]
  omega

theorem walk (x lo wd v : Int) (w : World) (hx : U32 x) (hlo : I64 lo) (hwd : I64 wd) (hv : U32 v) : Calls Try.prog 8 #[.int .u32 x, .agg #[.int .i64 lo, .int .i64 wd], .int .u32 v] w (Ret (.bool true) w) := by
  have c1 := fun W => bytes_any x hx W
  have c3 := fun W => put_any x lo wd v W hx hv hlo hwd
  have hW := word_bytes x hx
  have hE : wordE [byteI x 0, byteI x 1, byteI x 2, byteI x 3] = 0 := rfl
  by_cases h0 : putE lo wd v = 0
  · obtain ⟨hl, hk⟩ := putE_zero h0
    have hu : U32 (putI x lo wd v) := putI_u32 _ _ _ _ hx
    have c4 := fun W => get_any (putI x lo wd v) lo wd W hu hlo hwd
    rw [get_back x lo wd v hv hl hk, getE_of hl] at c4
    rw [h0] at c3
    have HX := Lib.hid (fun i => xor_bit_zero (putI x lo wd v) x hu hx i)
    have HP := Lib.hid (put_bit x lo wd v hl hk)
    generalize putI x lo wd v = y at *
    go_enter Try.func8, Try.ntmps8
    go_wp2_with (first
      | (go_at_call 14; refine (live_any _).mono ?_; rintro e w0 ⟨rfl, hb0⟩; have hB := bone hb0; have hc0 := (bcell hb0).1; have hz0 : w.heap.size < w0.heap.size := blt hb0 (by simp))
      | (go_at_call 34; refine (c1 _).mono ?_; rintro e w1 ⟨rfl, h4, hs4, hb1⟩; have hc1 := (bcell hb1).1; have hz1 : w.heap.size < w1.heap.size := blt hb1 hz0; have hr := four_row x _ _ h4 hs4; replace hB := bthen hB hb1 hB.size)
      | (go_at_call 33; refine (word_any _ _ _ _ _ hr (by decide)).mono ?_; rw [hW, hE]; rintro e w2 ⟨rfl, hb2⟩; have hc2 := (bcell hb2).1; have hz2 : w.heap.size < w2.heap.size := blt hb2 hz1; replace hB := bthen hB hb2 hB.size)
      | (go_at_call 17; refine (c3 _).mono ?_; rintro e w3 ⟨rfl, hb3⟩; have hc3 := (bcell hb3).1; have hz3 : w.heap.size < w3.heap.size := blt hb3 hz2; replace hB := bthen hB hb3 hB.size)
      | (go_at_call 15; refine (c4 _).mono ?_; rintro e w4 ⟨rfl, hb4⟩; have hc4 := (bcell hb4).1; have hz4 : w.heap.size < w4.heap.size := blt hb4 hz3; replace hB := bthen hB hb4 hB.size))
    go_loop [51] (fun i => ∃ k : Nat, k ≤ 32 ∧ i = .int .i64 k) (fun i => (32 - intOf i).toNat)
    case atStart => exact ⟨0, by omega, rfl⟩
    case round =>
      obtain ⟨k, hk, rfl⟩ := hrel
      obtain ⟨l1, l2, l3, l4⟩ := (liesB_iff lo wd).1 hl
      by_cases h32 : k = 32
      · subst h32
        go_wp2
        go_ret
        exact ⟨rfl, hB⟩
      · by_cases hlo' : lo ≤ k
        · by_cases hin : (k : Int) - lo < wd
          · go_wp2
            go_round
            case rel => exact ⟨k + 1, by omega, by simp⟩
            case measure => simp [intOf]; omega
          · have hz := HX.out k ((HP.out k).trans (if_neg (by omega)))
            have hne : (bits BinOp.and IntKind.u32 (bits BinOp.xor IntKind.u32 y x / 2 ^ k) 1 == 1) = false := by rw [hz]; rfl
            clear hz
            go_wp2
            go_round
            case rel => exact ⟨k + 1, by omega, by simp⟩
            case measure => simp [intOf]; omega
        · have hz := HX.out k ((HP.out k).trans (if_neg (by omega)))
          have hne : (bits BinOp.and IntKind.u32 (bits BinOp.xor IntKind.u32 y x / 2 ^ k) 1 == 1) = false := by rw [hz]; rfl
          clear hz
          go_wp2
          go_round
          case rel => exact ⟨k + 1, by omega, by simp⟩
          case measure => simp [intOf]; omega
  · have h0' : (putE lo wd v != 0) = true := bne_iff_ne.2 h0
    clear h0
    go_enter Try.func8, Try.ntmps8
    go_wp2_with (first
      | (go_at_call 14; refine (live_any _).mono ?_; rintro e w0 ⟨rfl, hb0⟩; have hB := bone hb0; have hc0 := (bcell hb0).1; have hz0 : w.heap.size < w0.heap.size := blt hb0 (by simp))
      | (go_at_call 34; refine (c1 _).mono ?_; rintro e w1 ⟨rfl, h4, hs4, hb1⟩; have hc1 := (bcell hb1).1; have hz1 : w.heap.size < w1.heap.size := blt hb1 hz0; have hr := four_row x _ _ h4 hs4; replace hB := bthen hB hb1 hB.size)
      | (go_at_call 33; refine (word_any _ _ _ _ _ hr (by decide)).mono ?_; rw [hW, hE]; rintro e w2 ⟨rfl, hb2⟩; have hc2 := (bcell hb2).1; have hz2 : w.heap.size < w2.heap.size := blt hb2 hz1; replace hB := bthen hB hb2 hB.size)
      | (go_at_call 17; refine (c3 _).mono ?_; rintro e w3 ⟨rfl, hb3⟩; have hc3 := (bcell hb3).1; have hz3 : w.heap.size < w3.heap.size := blt hb3 hz2; replace hB := bthen hB hb3 hB.size))
    go_ret
    exact ⟨rfl, hB⟩

theorem cellsF : Try.prog.cellsOf 24 = 2 := by kernel_rfl
theorem own : ownKnob Try.prog.godebug = none := by kernel_rfl
theorem laidOut : laidOutB Try.prog = true := by kernel_rfl
set_option maxRecDepth 100000 in
theorem lifted (os : Os) (started : os.Started) (H : Type) (enc : TypeId × Value → H) :
    ReturnsInHanded {} Try.checked os 8 .any (Rows.bitsBackSpec.pre6 enc Try.prog Try.f8 Rows.bitsBackRow.domain false) (Rows.bitsBackSpec.post enc Try.prog Try.f8 false true false false) := by
  refine returnsInHanded_of_change (C := Try.checked) own started (by kernel_rfl) Try.func8
    (ChangeSpec.witness6 (enc := enc) (C := Try.checked) false ⟨#[], #[.int .u32 0, .agg #[.int .i64 0, .int .i64 0], .int .u32 0], []⟩ 8 (by kernel_rfl) (by kernel_rfl) (by kernel_rfl) (by kernel_rfl)) ?_
  intro W base args ds gs before hval0 hW hcnd _
  have hval : ∀ (j : Nat) t v, Try.f8.params[j]? = some t → args[j]? = some v → Value.okWide Try.prog W .any base t v := hval0
  have hW' := hW
  obtain ⟨p, q, hA0, hV, rfl, hfz, hnd⟩ := hW
  have hA : DataW.TrodAll enc Try.prog W 0 (fun _ => true) true Try.f8.params.toList args.toList ds p := hA0
  rw [Try.params8] at hA hval
  obtain ⟨v0, vs0, d0, ds0, p0, q0, hargs, rfl, rfl, h0, r0⟩ := trodAll_cons hA
  obtain ⟨v1, vs1, d1, ds1, p1, q1, rfl, rfl, rfl, h1, r1⟩ := trodAll_cons r0
  obtain ⟨v2, vs2, d2, ds2, p2, q2, rfl, rfl, rfl, h2, r2⟩ := trodAll_cons r1
  obtain ⟨rfl, rfl, rfl⟩ := trodAll_nil r2
  obtain rfl : args = #[v0, v1, v2] := by cases args; simp_all
  obtain ⟨rfl, rfl⟩ := trodVars_none hV
  have k0 := h0
  have k1 := h1
  have k2 := h2
  have lt0 : ∀ x ∈ p0, x.block < W.heap.size := by obtain ⟨m, hm⟩ := k0; exact DataW.trod_lt m _ _ _ hm
  have lt1 : ∀ x ∈ p1, x.block < W.heap.size := by obtain ⟨m, hm⟩ := k1; exact DataW.trod_lt m _ _ _ hm
  have lt2 : ∀ x ∈ p2, x.block < W.heap.size := by obtain ⟨m, hm⟩ := k2; exact DataW.trod_lt m _ _ _ hm
  obtain ⟨a0, rfl, _, _, w0⟩ := open_int Try.underlying22 (hval 0 22 v0 rfl rfl) h0
  obtain ⟨c1, e1, y1, z1, m1, rfl, _, _, hy1, hz1⟩ := open_agg2 Try.underlying24 (by kernel_rfl) cellsF (hval 1 24 v1 rfl rfl) h1
  obtain ⟨a1, ea1, _, wa1⟩ := DataW.trod_int Try.underlying3 hy1
  obtain ⟨b1, eb1, _, wb1⟩ := DataW.trod_int Try.underlying3 hz1
  simp only [List.cons.injEq, and_true] at ea1 eb1
  subst ea1 eb1
  obtain ⟨a2, rfl, _, _, w2⟩ := open_int Try.underlying22 (hval 2 22 v2 rfl rfl) h2
  clear hA0 hval0
  refine (walk a0 a1 b1 a2 W (u32_wf w0) (i64_wf wa1) (i64_wf wb1) (u32_wf w2)).mono fun e W' ⟨he, bel⟩ => ?_
  subst he
  exact ⟨_, rfl, _, _, _, [], _, [], hW', trodAll_mk1 (shut_bool Try.underlying4 _), (trodAll_cons_mk (Below.trod laidOut (by kernel_rfl) (of_decide_eq_true (by kernel_rfl)) k0 bel lt0) (trodAll_cons_mk (Below.trod laidOut (by kernel_rfl) (of_decide_eq_true (by kernel_rfl)) k1 bel lt1) (trodAll_cons_mk (Below.trod laidOut (by kernel_rfl) (of_decide_eq_true (by kernel_rfl)) k2 bel lt2) trodAll_mk0))), rfl, bel.frame _, fun h => by cases h⟩

theorem proved : Rows.BitsBackSaid :=
  OpenClaim.holds_of_wide 8 Try.f8 rfl rfl rfl rfl rfl rfl rfl ⟨rfl, rfl, rfl, rfl, rfl⟩ rfl rfl rfl rfl rfl (by kernel_rfl) Try.func8 (by kernel_rfl)
    (of_decide_eq_true (by kernel_rfl)) (by unfold Func.isWrapper; first | (rw [if_pos (by decide +kernel)]; kernel_rfl) | (rw [if_neg (by decide +kernel)]; exact ⟨rfl, rfl⟩))
    (fun os started H enc _ => lifted os started H enc)
#print axioms proved
end Go.Proofs.Ytjojflodhghdbaa.lawBitsBack
