/- PROVED: LogimmAll returns true for every width and every number; each argument reads behind the call as it read before. No condition. -/
import Derived.Test.YtjojflodhghdbaaToldW
import Derived.Test.YtjojflodhghdbaaOpen
import Derived.ProofKit
import Derived.OpenShut
import Derived.Lib.SmallJoins
namespace Go.Proofs.Ytjojflodhghdbaa.lawLogimmAll
open Go.ChangeShapes Go.WideShapes Go.ChangeAt Go.RowKit Go.Sort Go.Joins
attribute [local go_sem] cell_gr frozen_gr
set_option linter.unusedVariables false

theorem all_any (x : Int) (w : World) : Calls Try.prog 47 #[.int .i64 x] w fun e w' => e = .returned (.func (.func 66) #[] #[.pointer (some ⟨w.heap.size, 0, none⟩)]) ∧ w' = w.alloc (.cells #[.int .i64 x] 3) :=
  (callsIn_wide (n := 4)).1 (all_in Fence.wide 4 trivial rfl x w)
theorem told_any (x m : Int) (hx : I64 x) (hm : I64 m) (Bw : Nat) (w : World) (hb : Bw < w.heap.size) (hc : w.cell? ⟨Bw, 0, none⟩ = some (.int .i64 x)) :
    Calls Try.prog 46 #[.func (.func 66) #[] #[.pointer (some ⟨Bw, 0, none⟩)], .int .i64 m] w (Told w ((allL x 8192).take m.toNat)) :=
  (callsIn_wide (n := 4)).1 (told_in x m hx hm Bw w hb hc)
theorem pairVs_get : ∀ (l : List AllX) (i : Nat) (p : AllX), l[i]? = some p → (pairVs l)[2 * i]? = some (.int .i64 p.1.1) ∧ (pairVs l)[2 * i + 1]? = some (.int .u64 p.1.2)
  | [], i, p, h => by simp at h
  | q :: l, 0, p, h => by
    simp at h
    subst h
    exact ⟨rfl, rfl⟩
  | q :: l, i + 1, p, h => by
    have := pairVs_get l i p (by simpa using h)
    have e : pairVs (q :: l) = .int .i64 q.1.1 :: .int .u64 q.1.2 :: pairVs l := rfl
    rw [e, show 2 * (i + 1) = 2 * i + 1 + 1 by omega, show 2 * i + 1 + 1 + 1 = (2 * i + 1) + 1 + 1 by omega]
    simpa using this
/-- a row's cells -/
theorem row_cells {W : World} {base : Nat} {v : Value} {l : List AllX} (h : W.ownsRow base 67 2 v l.length (pairVs l)) (hl : 0 < l.length) :
    ∃ g cap, v = .slice (some ⟨g, 0, none⟩) l.length cap ∧ ∀ (i : Nat) (p : AllX), l[i]? = some p → W.cell? ⟨g, 2 * i, none⟩ = some (.int .i64 p.1.1) ∧ W.cell? ⟨g, 2 * i + 1, none⟩ = some (.int .u64 p.1.2) := by
  rcases h.2 with ⟨_, h0⟩ | ⟨g, cap, cur, rfl, _, hg, _, _, hsz, htk⟩
  · omega
  · refine ⟨g, cap, rfl, fun i p hp => ?_⟩
    obtain ⟨a, b⟩ := pairVs_get l i p hp
    have hi : i < l.length := (List.getElem?_eq_some_iff.1 hp).1
    have key : ∀ j u, (pairVs l)[j]? = some u → j < l.length * 2 → W.cell? ⟨g, j, none⟩ = some u := fun j u hu hj => by
      rw [← htk, List.getElem?_take, if_pos hj] at hu
      simp only [World.cell?, hg]
      simpa using hu
    exact ⟨key _ _ a (by omega), key _ _ b (by omega)⟩
theorem row_below {W W' : World} {base k : Nat} {v : Value} {xs : List Value} (h : W.ownsRow base 67 2 v k xs) (hb : Below W.heap.size W W') : W'.ownsRow base 67 2 v k xs :=
  h.kept (grown_of hb) (by
    rcases h.2 with ⟨rfl, _⟩ | ⟨g, cap, cur, rfl, _⟩
    · exact .inl rfl
    · exact .inr (by simp [Value.ownBlock]))
set_option maxRecDepth 100000 in
set_option maxHeartbeats 4000000 in
theorem walk (wd mo : Int) (w : World) (hw : I64 wd) (hm : 0 ≤ mo ∧ mo < 256) : Calls Try.prog 13 #[.int .i64 wd, .int .u8 mo] w (Ret (.bool true) w) := by
  have ct0 := fun m (hm : I64 m) => told_any wd m hw hm
  have hcount := all_count wd
  have hlen := allL_len wd 8192
  obtain ⟨L, hL⟩ : ∃ L, L = allL wd 8192 := ⟨_, rfl⟩
  rw [← hL] at ct0 hcount hlen
  have ct := Lib.hid ct0
  have hP : Hid (∀ k, k < 8192 → allL wd (k + 1) <+: L) := Lib.hid fun k hk => by
    rw [hL]
    have := allL_pre wd (k + 1) (8192 - (k + 1))
    rw [show k + 1 + (8192 - (k + 1)) = 8192 by omega] at this
    exact this
  clear ct0
  have i9 : I64 9999 := by unfold I64; omega
  have im : I64 mo := by unfold I64; omega
  have tk1 : L.take (9999 : Int).toNat = L := List.take_of_length_le (by
    have : (9999 : Int).toNat = 9999 := rfl
    omega)
  go_enter Try.func13, Try.ntmps13
  go_wp2_with (first
    | (go_at_call 47; refine (all_any _ _).mono ?_; rintro e w1 ⟨rfl, rfl⟩)
    | (go_at_call 46; refine (ct.out _ (by assumption) _ _ (by simp) (by simp [go_sem])).mono ?_; first | (rintro e wT2 ⟨v2, rfl, hrow2, hbT2⟩; have hrow1b := row_below hrow1 ((bnew _ _).trans (hbT2.mono (by simp))); clear hrow1; have hB2 := bthen (hB1.alloc hB1.size _) hbT2 (by have := hB1.size; simp; omega)) | (rintro e wT1 ⟨v1, rfl, hrow1, hbT1⟩; rw [tk1] at hrow1; have hB1 := bone hbT1)))
  go_at_call 39
  refine (begun_any _).mono ?_
  rintro e w7 ⟨rfl, hb7⟩
  replace hrow1 := row_below hrow1b hb7
  replace hrow2 := row_below hrow2 hb7
  have hB3 := bthen hB2 hb7 hB2.size
  clear hrow1b hb7 hbT2 hB2
  have hl1 := len_own hrow1
  have hl2 := len_own hrow2
  obtain ⟨M, hM⟩ : ∃ M, M = L.take mo.toNat := ⟨_, rfl⟩
  rw [← hM] at hrow2 hl2
  have hMl : M.length = min mo.toNat L.length := by rw [hM, List.length_take]
  obtain ⟨c, hc⟩ : ∃ c : Nat → Nat, ∀ k, (allL wd k).length = c k := ⟨_, fun _ => rfl⟩
  have hc8 := hc 8192
  rw [← hL] at hc8
  have H1 : Hid (∀ (k : Nat) (hk : k < 8192), fldE (k : Int) wd = 0 → c (k + 1) = c k + 1 ∧ L[c k]? = some (allAt wd k hk)) := Lib.hid fun k hk hf => by
    obtain ⟨t, ht⟩ := hP.out k hk
    rw [allL_hit hf hk] at ht
    refine ⟨by rw [← hc, ← hc, allL_hit hf hk]; simp, ?_⟩
    rw [← ht, ← hc, List.append_assoc]
    simp
  have H2 : Hid (∀ k : Nat, ¬ fldE (k : Int) wd = 0 → c (k + 1) = c k) := Lib.hid fun k hf => by rw [← hc, ← hc, allL_miss hf]
  have H3 : Hid (∀ (i : Nat) (p : AllX), i < M.length → L[i]? = some p → M[i]? = some p) := Lib.hid fun i p hi hp => by
    rw [hM, List.getElem?_take, if_pos (by omega)]
    exact hp
  have c0 : c 0 = 0 := by rw [← hc]; rfl
  replace hc := Lib.hid hc
  clear hP ct hL hM tk1 hbT1
  replace hcount := Lib.hid hcount
  replace hc8 := Lib.hid hc8
  by_cases hmin : mo ≤ (L.length : Int)
  · have hm1 : ((M.length : Nat) : Int) = mo := by omega
    have hm2 : M.length ≤ L.length := by omega
    clear hMl
    have hq : (mo != min ((L.length : Nat) : Int) mo) = false := by rw [Int.min_eq_right hmin]; simp
    go_wp2
    replace hm1 := Lib.hid hm1
    clear hq
    go_loopw [7, 31] (fun a i wr => ∃ k : Nat, k ≤ 8192 ∧ i = .int .i64 k ∧ a = .int .i64 (c k) ∧ Below w7.heap.size w7 wr) (fun _ i _ => (8192 - intOf i).toNat)
    case atStart => exact ⟨0, by omega, rfl, by rw [c0]; rfl, Below.refl _ _⟩
    case round =>
      obtain ⟨k, hk, rfl, rfl, hbr⟩ := hrel
      by_cases hlt : k < 8192
      · have cv := Lib.hid (rvaluef_any (k : Int) wd (by unfold I64; omega) hw)
        by_cases hf : fldE (k : Int) wd = 0
        · obtain ⟨e1, e2⟩ := H1.out k hlt hf
          have hcl : c k < L.length := (List.getElem?_eq_some_iff.1 e2).1
          rw [hf] at cv
          clear hf
          obtain ⟨g, cap, rfl, hcell⟩ := row_cells (row_below hrow1 hbr) (by omega)
          obtain ⟨y0, y1⟩ := hcell _ _ e2
          have yg : g < wr.heap.size := block_lt_of_cell y0
          dsimp only [allAt] at y0 y1
          rw [Nat.mul_comm] at y0 y1
          have e3 := fun h => H3.out (c k) _ h e2
          clear hcell e2
          have e5 : decide (L.length ≤ c k) = false := decide_eq_false (by omega)
          replace e1 := Lib.hid e1
          by_cases hcm : c k < M.length
          · have e6 := e3 hcm
            have e4 : decide (c k < M.length) = true := decide_eq_true (by omega)
            obtain ⟨g2, cap2, rfl, hcell2⟩ := row_cells (row_below hrow2 hbr) (by omega)
            obtain ⟨x0, x1⟩ := hcell2 _ _ e6
            have xg : g2 < wr.heap.size := block_lt_of_cell x0
            dsimp only [allAt] at x0 x1
            rw [Nat.mul_comm] at x0 x1
            clear hcell2 e6 e3
            go_wp2_with (go_at_call 38; refine (cv.out _).mono ?_; rintro e wV ⟨rfl, hbV⟩; have z0 := ((bcell hbV).1 _ _ yg).trans y0; have z1 := ((bcell hbV).1 _ _ yg).trans y1; have v0 := ((bcell hbV).1 _ _ xg).trans x0; have v1 := ((bcell hbV).1 _ _ xg).trans x1; have zg := blt hbV yg; have vg := blt hbV xg; have hbW := bthen hbr hbV hbr.size)
            refine wp_region_quiet_below (by kernel_rfl) (by kernel_rfl) ?_
            repeat (go_big_quiet_step (fail))
            refine wpQuiet_nil ?_
            intro w2 hw2
            have hbW2 := bthen hbW (of_gr hw2) hbW.size
            clear hw2
            go_wp2
            go_roundw
            case rel => exact ⟨k + 1, by omega, by simp, by rw [e1.out]; simp, hbW2⟩
            case measure => simp [intOf]; omega
          · have e4 : decide (c k < M.length) = false := decide_eq_false (by omega)
            clear e3
            go_wp2_with (go_at_call 38; refine (cv.out _).mono ?_; rintro e wV ⟨rfl, hbV⟩; have z0 := ((bcell hbV).1 _ _ yg).trans y0; have z1 := ((bcell hbV).1 _ _ yg).trans y1; have zg := blt hbV yg; have hbW := bthen hbr hbV hbr.size)
            refine wp_region_quiet_below (by kernel_rfl) (by kernel_rfl) ?_
            repeat (go_big_quiet_step (fail))
            refine wpQuiet_nil ?_
            intro w2 hw2
            have hbW2 := bthen hbW (of_gr hw2) hbW.size
            clear hw2
            go_wp2
            go_roundw
            case rel => exact ⟨k + 1, by omega, by simp, by rw [e1.out]; simp, hbW2⟩
            case measure => simp [intOf]; omega
        · have e1 := Lib.hid (H2.out k hf)
          have b : (fldE (k : Int) wd != 0) = true := by simpa using hf
          clear hf
          go_wp2_with (go_at_call 38; refine (cv.out _).mono ?_; rintro e wV ⟨rfl, hbV⟩; have hbW := bthen hbr hbV hbr.size)
          go_roundw
          case rel => exact ⟨k + 1, by omega, by simp, by rw [e1.out], hbW⟩
          case measure => simp [intOf]; omega
      · obtain rfl : k = 8192 := by omega
        have q8 : decide (((c 8192 : Nat) : Int) = ((L.length : Nat) : Int)) = true := decide_eq_true (by have := hc8.out; omega)
        have q9 : c 8192 = L.length := hc8.out.symm
        have hn := hcount.out
        by_cases w32 : wd = 32
        · subst w32
          rw [all32] at hn
          go_wp2
          go_returns
          exact ⟨by simp, bthen hB3 hbr hB3.size⟩
        · have n32 : (wd == 32) = false := beq_false_of_ne w32
          by_cases w64 : wd = 64
          · subst w64
            rw [all64] at hn
            go_wp2
            go_returns
            exact ⟨by simp, bthen hB3 hbr hB3.size⟩
          · have n64 : (wd == 64) = false := beq_false_of_ne w64
            clear hn
            go_wp2
            go_returns
            exact ⟨by simp, bthen hB3 hbr hB3.size⟩
  · have hm1 : ((M.length : Nat) : Int) = (L.length : Int) := by omega
    have hm2 : M.length ≤ L.length := by omega
    clear hMl
    have hq : (((L.length : Nat) : Int) != min ((L.length : Nat) : Int) mo) = false := by rw [Int.min_eq_left (by omega)]; simp
    go_wp2
    replace hm1 := Lib.hid hm1
    clear hq
    go_loopw [7, 31] (fun a i wr => ∃ k : Nat, k ≤ 8192 ∧ i = .int .i64 k ∧ a = .int .i64 (c k) ∧ Below w7.heap.size w7 wr) (fun _ i _ => (8192 - intOf i).toNat)
    case atStart => exact ⟨0, by omega, rfl, by rw [c0]; rfl, Below.refl _ _⟩
    case round =>
      obtain ⟨k, hk, rfl, rfl, hbr⟩ := hrel
      by_cases hlt : k < 8192
      · have cv := Lib.hid (rvaluef_any (k : Int) wd (by unfold I64; omega) hw)
        by_cases hf : fldE (k : Int) wd = 0
        · obtain ⟨e1, e2⟩ := H1.out k hlt hf
          have hcl : c k < L.length := (List.getElem?_eq_some_iff.1 e2).1
          rw [hf] at cv
          clear hf
          obtain ⟨g, cap, rfl, hcell⟩ := row_cells (row_below hrow1 hbr) (by omega)
          obtain ⟨y0, y1⟩ := hcell _ _ e2
          have yg : g < wr.heap.size := block_lt_of_cell y0
          dsimp only [allAt] at y0 y1
          rw [Nat.mul_comm] at y0 y1
          have e3 := fun h => H3.out (c k) _ h e2
          clear hcell e2
          have e5 : decide (L.length ≤ c k) = false := decide_eq_false (by omega)
          replace e1 := Lib.hid e1
          by_cases hcm : c k < M.length
          · have e6 := e3 hcm
            have e4 : decide (c k < M.length) = true := decide_eq_true (by omega)
            obtain ⟨g2, cap2, rfl, hcell2⟩ := row_cells (row_below hrow2 hbr) (by omega)
            obtain ⟨x0, x1⟩ := hcell2 _ _ e6
            have xg : g2 < wr.heap.size := block_lt_of_cell x0
            dsimp only [allAt] at x0 x1
            rw [Nat.mul_comm] at x0 x1
            clear hcell2 e6 e3
            go_wp2_with (go_at_call 38; refine (cv.out _).mono ?_; rintro e wV ⟨rfl, hbV⟩; have z0 := ((bcell hbV).1 _ _ yg).trans y0; have z1 := ((bcell hbV).1 _ _ yg).trans y1; have v0 := ((bcell hbV).1 _ _ xg).trans x0; have v1 := ((bcell hbV).1 _ _ xg).trans x1; have zg := blt hbV yg; have vg := blt hbV xg; have hbW := bthen hbr hbV hbr.size)
            refine wp_region_quiet_below (by kernel_rfl) (by kernel_rfl) ?_
            repeat (go_big_quiet_step (fail))
            refine wpQuiet_nil ?_
            intro w2 hw2
            have hbW2 := bthen hbW (of_gr hw2) hbW.size
            clear hw2
            go_wp2
            go_roundw
            case rel => exact ⟨k + 1, by omega, by simp, by rw [e1.out]; simp, hbW2⟩
            case measure => simp [intOf]; omega
          · have e4 : decide (c k < M.length) = false := decide_eq_false (by omega)
            clear e3
            go_wp2_with (go_at_call 38; refine (cv.out _).mono ?_; rintro e wV ⟨rfl, hbV⟩; have z0 := ((bcell hbV).1 _ _ yg).trans y0; have z1 := ((bcell hbV).1 _ _ yg).trans y1; have zg := blt hbV yg; have hbW := bthen hbr hbV hbr.size)
            refine wp_region_quiet_below (by kernel_rfl) (by kernel_rfl) ?_
            repeat (go_big_quiet_step (fail))
            refine wpQuiet_nil ?_
            intro w2 hw2
            have hbW2 := bthen hbW (of_gr hw2) hbW.size
            clear hw2
            go_wp2
            go_roundw
            case rel => exact ⟨k + 1, by omega, by simp, by rw [e1.out]; simp, hbW2⟩
            case measure => simp [intOf]; omega
        · have e1 := Lib.hid (H2.out k hf)
          have b : (fldE (k : Int) wd != 0) = true := by simpa using hf
          clear hf
          go_wp2_with (go_at_call 38; refine (cv.out _).mono ?_; rintro e wV ⟨rfl, hbV⟩; have hbW := bthen hbr hbV hbr.size)
          go_roundw
          case rel => exact ⟨k + 1, by omega, by simp, by rw [e1.out], hbW⟩
          case measure => simp [intOf]; omega
      · obtain rfl : k = 8192 := by omega
        have q8 : decide (((c 8192 : Nat) : Int) = ((L.length : Nat) : Int)) = true := decide_eq_true (by have := hc8.out; omega)
        have q9 : c 8192 = L.length := hc8.out.symm
        have hn := hcount.out
        by_cases w32 : wd = 32
        · subst w32
          rw [all32] at hn
          go_wp2
          go_returns
          exact ⟨by simp, bthen hB3 hbr hB3.size⟩
        · have n32 : (wd == 32) = false := beq_false_of_ne w32
          by_cases w64 : wd = 64
          · subst w64
            rw [all64] at hn
            go_wp2
            go_returns
            exact ⟨by simp, bthen hB3 hbr hB3.size⟩
          · have n64 : (wd == 64) = false := beq_false_of_ne w64
            clear hn
            go_wp2
            go_returns
            exact ⟨by simp, bthen hB3 hbr hB3.size⟩
theorem own : ownKnob Try.prog.godebug = none := by kernel_rfl
theorem laidOut : laidOutB Try.prog = true := by kernel_rfl
set_option maxRecDepth 100000 in
theorem lifted (os : Os) (started : os.Started) (H : Type) (enc : TypeId × Value → H) :
    ReturnsInHanded {} Try.checked os 13 .any (Rows.logimmAllSpec.pre6 enc Try.prog Try.f13 Rows.logimmAllRow.domain false) (Rows.logimmAllSpec.post enc Try.prog Try.f13 false true false false) := by
  refine returnsInHanded_of_change (C := Try.checked) own started (by kernel_rfl) Try.func13
    (ChangeSpec.witness6 (enc := enc) (C := Try.checked) false ⟨#[], #[.int .i64 0, .int .u8 0], []⟩ 8 (by kernel_rfl) (by kernel_rfl) (by kernel_rfl) (by kernel_rfl)) ?_
  intro W base args ds gs before hval0 hW hcnd _
  have hval : ∀ (j : Nat) t v, Try.f13.params[j]? = some t → args[j]? = some v → Value.okWide Try.prog W .any base t v := hval0
  have hW' := hW
  obtain ⟨p, q, hA0, hV, rfl, hfz, hnd⟩ := hW
  have hA : DataW.TrodAll enc Try.prog W 0 (fun _ => true) true Try.f13.params.toList args.toList ds p := hA0
  rw [Try.params13] at hA hval
  obtain ⟨v0, vs0, d0, ds0, p0, q0, hargs, rfl, rfl, h0, r0⟩ := trodAll_cons hA
  obtain ⟨v1, vs1, d1, ds1, p1, q1, rfl, rfl, rfl, h1, r1⟩ := trodAll_cons r0
  obtain ⟨rfl, rfl, rfl⟩ := trodAll_nil r1
  obtain rfl : args = #[v0, v1] := by cases args; simp_all
  obtain ⟨rfl, rfl⟩ := trodVars_none hV
  have k0 := h0
  have k1 := h1
  have lt0 : ∀ x ∈ p0, x.block < W.heap.size := by obtain ⟨m, hm⟩ := k0; exact DataW.trod_lt m _ _ _ hm
  have lt1 : ∀ x ∈ p1, x.block < W.heap.size := by obtain ⟨m, hm⟩ := k1; exact DataW.trod_lt m _ _ _ hm
  obtain ⟨a0, rfl, _, _, w0⟩ := open_int Try.underlying3 (hval 0 3 v0 rfl rfl) h0
  obtain ⟨a1, rfl, _, _, w1⟩ := open_int Try.underlying5 (hval 1 5 v1 rfl rfl) h1
  clear hA0 hval0
  refine (walk a0 a1 W (i64_wf w0) (u8_wf w1)).mono fun e W' ⟨he, bel⟩ => ?_
  subst he
  exact ⟨_, rfl, _, _, _, [], _, [], hW', trodAll_mk1 (shut_bool Try.underlying4 _), (trodAll_cons_mk (Below.trod laidOut (by kernel_rfl) (of_decide_eq_true (by kernel_rfl)) k0 bel lt0) (trodAll_cons_mk (Below.trod laidOut (by kernel_rfl) (of_decide_eq_true (by kernel_rfl)) k1 bel lt1) trodAll_mk0)), rfl, bel.frame _, fun h => by cases h⟩

theorem proved : Rows.LogimmAllSaid :=
  OpenClaim.holds_of_wide 13 Try.f13 rfl rfl rfl rfl rfl rfl rfl ⟨rfl, rfl, rfl, rfl, rfl⟩ rfl rfl rfl rfl rfl (by kernel_rfl) Try.func13 (by kernel_rfl)
    (of_decide_eq_true (by kernel_rfl)) (by unfold Func.isWrapper; first | (rw [if_pos (by decide +kernel)]; kernel_rfl) | (rw [if_neg (by decide +kernel)]; exact ⟨rfl, rfl⟩))
    (fun os started H enc _ => lifted os started H enc)
#print axioms proved
end Go.Proofs.Ytjojflodhghdbaa.lawLogimmAll
