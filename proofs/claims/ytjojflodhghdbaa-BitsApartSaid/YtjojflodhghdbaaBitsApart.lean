/- PROVED: BitsApart returns true for every word, all fields and all values; each argument reads behind the call as it read before. No condition. -/
import Derived.Test.YtjojflodhghdbaaLaw01L
import Derived.Test.YtjojflodhghdbaaPackW
namespace Go.Proofs.Ytjojflodhghdbaa.lawBitsApart
open Go.ChangeShapes Go.WideShapes Go.ChangeAt Go.RowKit Go.Sort Go.Joins
attribute [local go_sem] cell_gr frozen_gr
set_option linter.unusedVariables false

theorem putE_zero {lo wd v : Int} (h : putE lo wd v = 0) : liesB lo wd = true ∧ putOk wd v = true := by
  unfold putE at h
  split at h
  · rename_i h1
    split at h
    · rename_i h2; exact ⟨h1, h2⟩
    · cases h
  · cases h
/-- a bit that is not a field's is what it was -/
theorem put_bit (x lo wd v : Int) (h : liesB lo wd = true) (h' : putOk wd v = true) (p : Nat) : (putI x lo wd v).toNat.testBit p = if lo.toNat ≤ p ∧ p < lo.toNat + wd.toNat then v.toNat.testBit (p - lo.toNat) else x.toNat.testBit p := by
  rw [putI_of h h', Int.toNat_natCast]
  exact putN_bit _ _ _ _ _ (by simpa [putOk] using h')
theorem pack_keep : ∀ (l : List (Int × Int)) (v : List Int) (s : Nat) (x y : Int), apartGo s l = true → packGo x (l.zip v) = (y, 0) → ∀ p, s.testBit p = true → y.toNat.testBit p = x.toNat.testBit p
  | [], v, s, x, y, _, hp, p, _ => by
    have : (x, (0 : Int)) = (y, 0) := by simpa [packGo] using hp
    rw [(Prod.mk.inj this).1]
  | f :: l, [], s, x, y, _, hp, p, _ => by
    have : (x, (0 : Int)) = (y, 0) := by simpa [packGo] using hp
    rw [(Prod.mk.inj this).1]
  | (lo, wd) :: l, a :: v, s, x, y, hap, hp, p, hs => by
    simp only [apartGo, Bool.and_eq_true] at hap
    obtain ⟨⟨h1, h2⟩, h3⟩ := hap
    simp only [List.zip_cons_cons, packGo] at hp
    split at hp
    · rename_i hE
      obtain ⟨_, hok⟩ := putE_zero hE
      have ih := pack_keep l v _ _ _ h3 hp p (by rw [Nat.testBit_or, hs]; rfl)
      rw [ih, put_bit _ _ _ _ h1 hok, if_neg]
      rintro ⟨q1, q2⟩
      have := (and_msk_zero s lo.toNat wd.toNat).1 (by simpa using h2) p q1 q2
      rw [hs] at this; cases this
    · rename_i hE
      exact absurd (Prod.mk.inj hp).2 hE
theorem pack_get : ∀ (l : List (Int × Int)) (v : List Int) (s : Nat) (x y : Int), apartGo s l = true → packGo x (l.zip v) = (y, 0) → ∀ i (h1 : i < l.length) (h2 : i < v.length), liesB l[i].1 l[i].2 = true ∧ getN y.toNat l[i].1.toNat l[i].2.toNat = v[i].toNat
  | [], v, s, x, y, _, _, i, h1, _ => absurd h1 (by simp)
  | f :: l, [], s, x, y, _, _, i, _, h2 => absurd h2 (by simp)
  | (lo, wd) :: l, a :: v, s, x, y, hap, hp, i, h1, h2 => by
    simp only [apartGo, Bool.and_eq_true] at hap
    obtain ⟨⟨k1, k2⟩, k3⟩ := hap
    simp only [List.zip_cons_cons, packGo] at hp
    split at hp
    · rename_i hE
      obtain ⟨_, hok⟩ := putE_zero hE
      cases i with
      | zero =>
        refine ⟨k1, ?_⟩
        show getN y.toNat lo.toNat wd.toNat = a.toNat
        apply Nat.eq_of_testBit_eq
        intro p
        rw [getN_bit]
        by_cases hpw : p < wd.toNat
        · have hm : (s ||| mskN lo.toNat wd.toNat).testBit (lo.toNat + p) = true := by rw [Nat.testBit_or, mskN_bit]; simp; omega
          rw [pack_keep l v _ _ _ k3 hp _ hm, put_bit _ _ _ _ k1 hok, if_pos ⟨by omega, by omega⟩]
          have : lo.toNat + p - lo.toNat = p := by omega
          simp [hpw, this]
        · have := bit_ge (x := a.toNat) (n := wd.toNat) (i := p) (by simpa [putOk] using hok) (Nat.le_of_not_lt hpw)
          simp [hpw, this]
      | succ i => exact pack_get l v _ _ _ k3 hp i (by simpa using h1) (by simpa using h2)
    · rename_i hE
      exact absurd (Prod.mk.inj hp).2 hE

theorem packGo_u32 : ∀ (l : List ((Int × Int) × Int)) (x : Int), U32 x → U32 (packGo x l).1
  | [], x, h => h
  | (f, v) :: r, x, h => by
    simp only [packGo]
    split
    · exact packGo_u32 r _ (putI_u32 _ _ _ _ h)
    · exact ⟨by show (0 : Int) ≤ 0; decide, by show (0 : Int) < 4294967296; decide⟩
theorem walk (x : Int) (A : Option Addr) (n ca : Nat) (l : List (Int × Int)) (B : Option Addr) (m cb : Nat) (v : List Int) (w : World) (hx : U32 x) (hl : FRow w A n l) (hn : n ≤ maxLen) (hv : WRow w B m v) (hm : m ≤ maxLen) :
    Calls Try.prog 5 #[.int .u32 x, .slice A n ca, .slice B m cb] w (Ret (.bool true) w) := by
  unfold maxLen at hn hm
  have hB : Below w.heap.size w w := Below.refl _ _
  have hn2 : n ≤ 9223372036854775807 := by omega
  have hm2 : m ≤ 9223372036854775807 := by omega
  by_cases h2 : n ≤ 200
  · have h2' : (n : Int) ≤ 200 := by omega
    by_cases hap : apartGo 0 l = true
    · by_cases hE : (packI x l v).2 = 0
      · have hlen : l.length = v.length := by
          by_cases h : l.length = v.length
          · exact h
          · have e : packI x l v = (0, 1) := if_neg h
            rw [e] at hE; cases hE
        have e : packI x l v = packGo x (l.zip v) := if_pos hlen
        have hg := pack_get l v 0 x (packI x l v).1 hap (by rw [← e]; exact Prod.ext rfl hE)
        have hU : U32 (packI x l v).1 := by rw [e]; exact packGo_u32 _ _ hx
        have nm : n = m := by rw [← hl.1, hlen, hv.1]
        have hl1 := hl.1
        have hl2 := hl.2.1
        have hv2 := hv.2.1
        have HL := Lib.hid hl1
        have HG := Lib.hid hg
        have HLEN := Lib.hid hlen
        subst nm
        have cp := fun W hl hv => pack_any x A B n n ca cb l v W hx hl hv hn2 hn2
        have ca' := fun W hl => rapart_any A n ca l W hl hn2
        rw [hE] at cp
        rw [hap] at ca'
        generalize (packI x l v).1 = y at *
        clear hl1 hg hE e hap hlen
        go_enter Try.func5, Try.ntmps5
        go_wp2_with (first
          | (go_at_call 14; refine (live_any _).mono ?_; rintro e w1 ⟨rfl, hb⟩; replace hB := bthen hB hb hB.size)
          | (go_at_call 29; refine (cp _ (hl.keep hB) (hv.keep hB)).mono ?_; rintro e w1 ⟨rfl, hb⟩; replace hB := bthen hB hb hB.size)
          | (go_at_call 28; refine (ca' _ (hl.keep hB)).mono ?_; rintro e w1 ⟨rfl, hb⟩; replace hB := bthen hB hb hB.size)
          | go_in)
        go_loopw [34] (fun i wr => ∃ (k : Nat), k ≤ n ∧ i = .int .i64 k ∧ Below w.heap.size w wr) (fun i _ => n - (intOf i).toNat)
        case atStart => exact ⟨0, by omega, rfl, hB⟩
        case round =>
          obtain ⟨k, hk, rfl, hB⟩ := hrel
          by_cases hlt : k < n
          · obtain ⟨b1, o1, rfl, hb1, hc1⟩ := (hl.keep hB).2.2 (by omega)
            obtain ⟨b2, o2, rfl, hb2, hc2⟩ := (hv.keep hB).2.2 (by omega)
            have hkl : k < l.length := by have := HL.out; omega
            have hkv : k < v.length := by have := HL.out; have := HLEN.out; omega
            obtain ⟨f0, f1⟩ := hc1 k hkl
            have f2 := hc2 k hkv
            have i1 := hl2 _ (List.getElem_mem hkl)
            have i2 := hv2 _ (List.getElem_mem hkv)
            obtain ⟨g1, g2⟩ := HG.out k hkl hkv
            clear hc1 hc2
            generalize l[k].1 = lo at *
            generalize l[k].2 = wd at *
            generalize v[k] = a at *
            obtain ⟨i1a, i1b⟩ := i1
            have c := fun W => get_any y lo wd W hU i1a i1b
            have e1 : getI y lo wd = a := by rw [getI_of g1, g2]; have := i2.1; omega
            rw [e1, getE_of g1] at c
            clear e1 g1 g2
            go_wp2_with (first
              | (go_at_call 15; refine (c _).mono ?_; rintro e w1 ⟨rfl, hb⟩; have hc1 := (bcell hb).1; have hz1 : b2 < w1.heap.size := blt hb (by simp; omega); replace hB := bthen (hB.alloc hB.size _) hb (Nat.le_trans hB.size (by simp))))
            go_roundw
            case rel => exact ⟨k + 1, by omega, by go_num, hB⟩
            case measure => simp [intOf]; omega
          · go_wp2
            go_ret
            exact ⟨rfl, hB⟩
      · have hE' : ((packI x l v).2 != 0) = true := by simpa using hE
        have ca' := fun W hl => rapart_any A n ca l W hl hn2
        rw [hap] at ca'
        go_enter Try.func5, Try.ntmps5
        go_wp2_with (first
          | (go_at_call 14; refine (live_any _).mono ?_; rintro e w1 ⟨rfl, hb⟩; replace hB := bthen hB hb hB.size)
          | (go_at_call 29; refine (pack_any _ _ _ _ _ _ _ _ _ _ hx (hl.keep hB) (hv.keep hB) hn2 hm2).mono ?_; rintro e w1 ⟨rfl, hb⟩; replace hB := bthen hB hb hB.size)
          | (go_at_call 28; refine (ca' _ (hl.keep hB)).mono ?_; rintro e w1 ⟨rfl, hb⟩; replace hB := bthen hB hb hB.size)
          | go_in)
        go_ret
        exact ⟨rfl, hB⟩
    · have hap' : apartGo 0 l = false := by simpa using hap
      have ca' := fun W hl => rapart_any A n ca l W hl hn2
      rw [hap'] at ca'
      go_enter Try.func5, Try.ntmps5
      go_wp2_with (first
        | (go_at_call 14; refine (live_any _).mono ?_; rintro e w1 ⟨rfl, hb⟩; replace hB := bthen hB hb hB.size)
        | (go_at_call 28; refine (ca' _ (hl.keep hB)).mono ?_; rintro e w1 ⟨rfl, hb⟩; replace hB := bthen hB hb hB.size)
        | go_in)
      go_ret
      exact ⟨rfl, hB⟩
  · have h2' : decide ((n : Int) ≤ 200) = false := by simp; omega
    go_enter Try.func5, Try.ntmps5
    go_wp2_with (first
      | (go_at_call 14; refine (live_any _).mono ?_; rintro e w1 ⟨rfl, hb⟩; replace hB := bthen hB hb hB.size)
      | go_in)
    go_ret
    exact ⟨rfl, hB⟩

theorem flatF : Flat Try.prog 24 [isInt .i64, isInt .i64] :=
  flat_struct Try.underlying24 (by kernel_rfl) (flat_cons (k1 := [isInt .i64]) rfl (by kernel_rfl) (flat_int Try.underlying3) (flat_cons (k1 := [isInt .i64]) rfl (by kernel_rfl) (flat_int Try.underlying3) (flat_nil _ _)))
theorem own : ownKnob Try.prog.godebug = none := by kernel_rfl
theorem laidOut : laidOutB Try.prog = true := by kernel_rfl
set_option maxRecDepth 100000 in
theorem lifted (os : Os) (started : os.Started) (H : Type) (enc : TypeId × Value → H) :
    ReturnsInHanded {} Try.checked os 5 .any (Rows.bitsApartSpec.pre6 enc Try.prog Try.f5 Rows.bitsApartRow.domain false) (Rows.bitsApartSpec.post enc Try.prog Try.f5 false true false false) := by
  refine returnsInHanded_of_change (C := Try.checked) own started (by kernel_rfl) Try.func5
    (ChangeSpec.witness6 (enc := enc) (C := Try.checked) false ⟨#[], #[.int .u32 0, .slice none 0 0, .slice none 0 0], []⟩ 8 (by kernel_rfl) (by kernel_rfl) (by kernel_rfl) (by kernel_rfl)) ?_
  intro W base args ds gs before hval0 hW hcnd _
  have hval : ∀ (j : Nat) t v, Try.f5.params[j]? = some t → args[j]? = some v → Value.okWide Try.prog W .any base t v := hval0
  have hW' := hW
  obtain ⟨p, q, hA0, hV, rfl, hfz, hnd⟩ := hW
  have hA : DataW.TrodAll enc Try.prog W 0 (fun _ => true) true Try.f5.params.toList args.toList ds p := hA0
  rw [Try.params5] at hA hval
  obtain ⟨v0, vs0, d0, ds0, p0, q0, hargs, rfl, rfl, h0, r0⟩ := trodAll_cons hA
  obtain ⟨v1, vs1, d1, ds1, p1, q1, rfl, rfl, rfl, h1, r1⟩ := trodAll_cons r0
  obtain ⟨v2, vs2, d2, ds2, p2, q2, rfl, rfl, rfl, h2, r2⟩ := trodAll_cons r1
  obtain ⟨rfl, rfl, rfl⟩ := trodAll_nil r2
  obtain rfl : args = #[v0, v1, v2] := by cases args; simp_all
  obtain ⟨rfl, rfl⟩ := trodVars_none hV
  have k0 := h0
  have k1 := h1
  have k2 := h2
  have lt0 : ∀ x ∈ p0, x.block < W.heap.size := by obtain ⟨m, hm⟩ := k0; exact DataW.trod_lt m _ _ _ hm
  have lt1 : ∀ x ∈ p1, x.block < W.heap.size := by obtain ⟨m, hm⟩ := k1; exact DataW.trod_lt m _ _ _ hm
  have lt2 : ∀ x ∈ p2, x.block < W.heap.size := by obtain ⟨m, hm⟩ := k2; exact DataW.trod_lt m _ _ _ hm
  obtain ⟨a0, rfl, _, _, w0⟩ := open_int Try.underlying22 (hval 0 22 v0 rfl rfl) h0
  obtain ⟨A1, n1, c1, rfl⟩ := okWide_slice Try.underlying39 (hval 1 39 v1 rfl rfl)
  obtain ⟨rows1, hr1, hm1⟩ := open_rows Try.underlying39 flatF (by kernel_rfl) (by decide) h1
  obtain ⟨l1, hl1⟩ := frow_of hr1
  obtain ⟨A2, n2, c2, rfl⟩ := okWide_slice Try.underlying40 (hval 2 40 v2 rfl rfl)
  obtain ⟨rows2, hr2, hm2⟩ := open_rows Try.underlying40 (flat_int Try.underlying22) (by kernel_rfl) (by decide) h2
  obtain ⟨l2, hl2⟩ := wrow_of hr2
  clear hA0 hval0
  refine (walk a0 A1 n1 c1 l1 A2 n2 c2 l2 W (u32_wf w0) hl1 hm1 hl2 hm2).mono fun e W' ⟨he, bel⟩ => ?_
  subst he
  exact ⟨_, rfl, _, _, _, [], _, [], hW', trodAll_mk1 (shut_bool Try.underlying4 _), (trodAll_cons_mk (Below.trod laidOut (by kernel_rfl) (of_decide_eq_true (by kernel_rfl)) k0 bel lt0) (trodAll_cons_mk (Below.trod laidOut (by kernel_rfl) (of_decide_eq_true (by kernel_rfl)) k1 bel lt1) (trodAll_cons_mk (Below.trod laidOut (by kernel_rfl) (of_decide_eq_true (by kernel_rfl)) k2 bel lt2) trodAll_mk0))), rfl, bel.frame _, fun h => by cases h⟩

theorem proved : Rows.BitsApartSaid :=
  OpenClaim.holds_of_wide 5 Try.f5 rfl rfl rfl rfl rfl rfl rfl ⟨rfl, rfl, rfl, rfl, rfl⟩ rfl rfl rfl rfl rfl (by kernel_rfl) Try.func5 (by kernel_rfl)
    (of_decide_eq_true (by kernel_rfl)) (by unfold Func.isWrapper; first | (rw [if_pos (by decide +kernel)]; kernel_rfl) | (rw [if_neg (by decide +kernel)]; exact ⟨rfl, rfl⟩))
    (fun os started H enc _ => lifted os started H enc)
#print axioms proved
end Go.Proofs.Ytjojflodhghdbaa.lawBitsApart
