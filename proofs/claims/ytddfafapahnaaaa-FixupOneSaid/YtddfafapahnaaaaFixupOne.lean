/- PROVED: FixupOne returns true for every case and any bytes; the arguments read behind the call as they read before. No condition. -/
import Derived.Test.YtddfafapahnaaaaOne0
import Derived.Test.YtddfafapahnaaaaOne1
import Derived.Test.YtddfafapahnaaaaOne2
import Derived.Test.YtddfafapahnaaaaCaseO
import Derived.Test.YtddfafapahnaaaaSliceW
import Derived.Handy
import Derived.ProofKit
import Derived.OpenShut
import Derived.Lib.SmallJoins
namespace Go.Proofs.Ytddfafapahnaaaa.lawFixupOne
open Go.ChangeShapes Go.WideShapes Go.ChangeAt Go.RowKit Go.Sort Go.Joins Sym
set_option linter.unusedVariables false

theorem brow_of {w : World} {A : Option Addr} {n : Nat} {rows : List (List Value)} (h : RowsOf w A n [isInt .u8] rows) : ∃ l, BRow w A n l := by
  obtain ⟨h1, h2, h3⟩ := h
  have form : ∀ r ∈ rows, ∃ a, r = [.int .u8 a] ∧ 0 ≤ a ∧ a < 256 := fun r hr => by
    obtain ⟨v0, r1, rfl, ⟨a, rfl, wa⟩, q1⟩ := fits_cons (h2 r hr)
    obtain rfl := fits_nil q1
    exact ⟨a, rfl, u8_wf wa⟩
  refine ⟨rows.map fun r => numOf (r.getD 0 undef), by simpa using h1, fun f hf => ?_, fun hn => ?_⟩
  · obtain ⟨r, hr, rfl⟩ := List.mem_map.1 hf
    obtain ⟨a, rfl, ia⟩ := form r hr
    exact ia
  · obtain ⟨b, off, rfl, hb, hc⟩ := h3 hn
    refine ⟨b, off, rfl, hb, fun k hk => ?_⟩
    have hk' : k < rows.length := by simpa using hk
    obtain ⟨x, e, ix⟩ := form rows[k] (List.getElem_mem hk')
    have c0 := hc k hk' 0 (by simp)
    simp only [List.length_cons, List.length_nil, Nat.zero_add, Nat.add_zero, Nat.mul_one] at c0
    rw [e] at c0
    rw [List.getElem_map, e]
    exact c0
theorem mixed : Try.prog.follows .mixedOrders = true := by kernel_rfl
theorem run_any (kd sz : Int) (h : checkB kd sz = true) : oneB (.lit kd) (.lit sz) 0 .tt = true := by
  have := (checkB_iff kd sz).1 h
  have c : (sz = 0 ∧ (kd = 1 ∨ kd = 2 ∨ kd = 3 ∨ kd = 4 ∨ kd = 5 ∨ kd = 6 ∨ kd = 7 ∨ kd = 8 ∨ kd = 9 ∨ kd = 10 ∨ kd = 11 ∨ kd = 12)) ∨ (kd = 9 ∧ (sz = 1 ∨ sz = 2 ∨ sz = 3)) := by omega
  rcases c with ⟨rfl, c⟩ | ⟨rfl, c⟩
  · rcases c with rfl | rfl | rfl | rfl | rfl | rfl | rfl | rfl | rfl | rfl | rfl | rfl
    · exact run_1_0
    · exact run_2_0
    · exact run_3_0
    · exact run_4_0
    · exact run_5_0
    · exact run_6_0
    · exact run_7_0
    · exact run_8_0
    · exact run_9_0
    · exact run_10_0
    · exact run_11_0
    · exact run_12_0
  · rcases c with rfl | rfl | rfl
    · exact run_9_1
    · exact run_9_2
    · exact run_9_3
theorem wordI_bd (l : List Int) (h : ∀ v ∈ l, 0 ≤ v ∧ v < 256) : 0 ≤ wordI l ∧ wordI l ≤ 4294967295 := by
  unfold wordI
  split
  · rename_i h4
    obtain ⟨c0, c1, c2, c3, rfl⟩ : ∃ c0 c1 c2 c3, l = [c0, c1, c2, c3] := by
      match l, h4 with
      | [c0, c1, c2, c3], _ => exact ⟨c0, c1, c2, c3, rfl⟩
    have h0 := h c0 (by simp)
    have h1 := h c1 (by simp)
    have h2 := h c2 (by simp)
    have h3 := h c3 (by simp)
    have e : wordN [c0, c1, c2, c3] = c0 + c1 * 256 + c2 * 65536 + c3 * 16777216 := by simp [wordN]; try omega
    omega
  · omega
theorem pat_h {cx : Ctx} {ρ : Env} {f : FuncId} {pat : List SV} {v : SV} {vals : List Value} {x : Value} (hp : ∀ β, denA ρ β pat = some vals) (hx : ∀ β, v.den ρ β = some x) (h : ∀ w, Calls cx.P f vals.toArray w (Ret x w)) : SumOk cx ρ f (patS pat v) := by
  refine patS_ok fun β vs w _ ha => ?_
  rw [hp] at ha
  cases ha
  exact ⟨x, hx β, h w⟩
theorem walk (kd sz add : Int) (pl mi : ByteArray) (sec off : Int) (A : Option Addr) (n ca : Nat) (l : List Sy) (Ab : Option Addr) (nb cb : Nat) (lb : List Int) (w : World) (hb : I64 kd ∧ I64 sz ∧ I64 add ∧ I64 sec ∧ I64 off) (hl : SRow w A n l) (hB : BRow w Ab nb lb) (hn : nb ≤ maxLen) :
    Calls Try.prog 6 #[.agg #[.int .i64 kd, .int .i64 sz, .int .i64 add, .string pl, .string mi, .int .i64 sec, .int .i64 off, .slice A n ca], .slice Ab nb cb] w (Ret (.bool true) w) := by
  have m1 : (maxLen : Nat) ≤ 9223372036854775807 := by decide
  have hnn : n ≤ maxLen := hl.2.1
  have go : ∀ (k s : SE) (z : Int) (e : SE) (P M : Option Pt), k.int (oneEnv w kd sz add sec off n ca A pl mi P M nb cb Ab (wordI lb)) = kd → s.int (oneEnv w kd sz add sec off n ca A pl mi P M nb cb Ab (wordI lb)) = sz → checkE kd sz = z →
      SumOk (oneCx k s z e) (oneEnv w kd sz add sec off n ca A pl mi P M nb cb Ab (wordI lb)) 32 (partsS e) → oneB k s z e = true →
      Calls Try.prog 6 #[.agg #[.int .i64 kd, .int .i64 sz, .int .i64 add, .string pl, .string mi, .int .i64 sec, .int .i64 off, .slice A n ca], .slice Ab nb cb] w (Ret (.bool true) w) := by
    intro k s z e P M hk hs hz hp hr
    unfold oneB at hr
    have ok : (oneCx k s z e).Ok (oneEnv w kd sz add sec off n ca A pl mi P M nb cb Ab (wordI lb)) := by
      refine ⟨?_, (by intro i l h e; cases e), fun _ => rfl, mixed, (by intro p hp; cases hp)⟩
      intro i lo h hi
      replace hi : lk bdO i = some (lo, h) := hi
      unfold bdO at hi
      rw [lk_cons, lk_cons, lk_cons] at hi
      split at hi
      · rename_i q; cases hi; subst q
        show 0 ≤ (n : Int) ∧ (n : Int) ≤ 9223372036854775807
        omega
      · split at hi
        · rename_i q; cases hi; subst q
          show 0 ≤ (nb : Int) ∧ (nb : Int) ≤ 9223372036854775807
          omega
        · split at hi
          · rename_i q; cases hi; subst q
            exact wordI_bd lb hB.2.1
          · cases hi
    have dh : ∀ β, denA (oneEnv w kd sz add sec off n ca A pl mi P M nb cb Ab (wordI lb)) β [.p (.agg (hL k s))] = some [holeV kd sz add pl mi] := by
      intro β
      show some [Value.agg #[.int .i64 (k.int _), .int .i64 (s.int _), .int .i64 add, .string pl, .string mi]] = _
      rw [hk, hs]
      rfl
    have e5 : ((oneEnv w kd sz add sec off n ca A pl mi P M nb cb Ab (wordI lb)).i 5).toNat = n := Int.toNat_natCast n
    have e6 : ((oneEnv w kd sz add sec off n ca A pl mi P M nb cb Ab (wordI lb)).i 6).toNat = nb := Int.toNat_natCast nb
    refine runF_true (cx := oneCx k s z e) ok (sums_of ?_) mixed rfl rfl (args := [caseL k s, bS]) (vals := [.agg #[.int .i64 kd, .int .i64 sz, .int .i64 add, .string pl, .string mi, .int .i64 sec, .int .i64 off, .slice A n ca], .slice Ab nb cb]) ?_ hr
    · intro p hp'
      replace hp' : p ∈ oneSums k s z e := hp'
      simp only [oneSums, List.mem_cons, List.not_mem_nil, or_false] at hp'
      rcases hp' with rfl | rfl | rfl | rfl | rfl | rfl | rfl
      · exact pat_h (vals := []) (x := .bool true) (fun β => rfl) (fun β => rfl) live_any
      · exact pat_h dh (x := .int .i64 z) (fun β => rfl) (fun w => by have := check_any kd sz add pl mi w; rw [hz] at this; exact this)
      · exact hp
      · exact word_s rfl hB (by omega) rfl
      · exact put_s put_any
      · exact ones_s ones_any
      · exact fits64_s fits_any
    · show some [Value.agg #[.int .i64 (k.int _), .int .i64 (s.int _), .int .i64 add, .string pl, .string mi, .int .i64 sec, .int .i64 off, .slice A (Int.toNat _) ca], Value.slice Ab (Int.toNat _) cb] = _
      rw [hk, hs, e5, e6]
  cases hc : checkB kd sz with
  | false =>
    have e1 : checkE kd sz = 1 := by unfold checkE; rw [hc]; rfl
    cases h : ((part pl sec off l).isSome && (part mi sec off l).isSome) with
    | true => exact go (.var 0) (.var 1) 1 .tt _ _ rfl rfl e1 (parts_s rfl hl .tt rfl rfl h.symm) run_bad
    | false => exact go (.var 0) (.var 1) 1 .ff _ _ rfl rfl e1 (parts_s rfl hl .ff rfl rfl h.symm) run_bad2
  | true =>
    have e0 : checkE kd sz = 0 := by unfold checkE; rw [hc]; rfl
    cases h : ((part pl sec off l).isSome && (part mi sec off l).isSome) with
    | true => exact go (.lit kd) (.lit sz) 0 .tt _ _ rfl rfl e0 (parts_s rfl hl .tt rfl rfl h.symm) (run_any kd sz hc)
    | false => exact go (.var 0) (.var 1) 0 .ff _ _ rfl rfl e0 (parts_s rfl hl .ff rfl rfl h.symm) run_none
theorem own : ownKnob Try.prog.godebug = none := by kernel_rfl
theorem laidOut : laidOutB Try.prog = true := by kernel_rfl
set_option maxRecDepth 100000 in
theorem lifted (os : Os) (started : os.Started) (H : Type) (enc : TypeId × Value → H) :
    ReturnsInHanded {} Try.checked os 6 .any (Rows.fixupOneSpec.pre6 enc Try.prog Try.f6 Rows.fixupOneRow.domain false) (Rows.fixupOneSpec.post enc Try.prog Try.f6 false true false false) := by
  refine returnsInHanded_of_change (C := Try.checked) own started (by kernel_rfl) Try.func6
    (ChangeSpec.witness6 (enc := enc) (C := Try.checked) false ⟨#[], #[.agg #[.int .i64 0, .int .i64 0, .int .i64 0, .string ⟨#[]⟩, .string ⟨#[]⟩, .int .i64 0, .int .i64 0, .slice none 0 0], .slice none 0 0], []⟩ 8 (by kernel_rfl) (by kernel_rfl) (by kernel_rfl) (by kernel_rfl)) ?_
  intro W base args ds gs before hval0 hW hcnd _
  have hval : ∀ (j : Nat) t v, Try.f6.params[j]? = some t → args[j]? = some v → Value.okWide Try.prog W .any base t v := hval0
  have hW' := hW
  obtain ⟨p, q, hA0, hV, rfl, hfz, hnd⟩ := hW
  have hA : DataW.TrodAll enc Try.prog W 0 (fun _ => true) true Try.f6.params.toList args.toList ds p := hA0
  rw [Try.params6] at hA hval
  obtain ⟨v0, vs0, d0, ds0, p0, q0, hargs, rfl, rfl, h0, r0⟩ := trodAll_cons hA
  obtain ⟨v1, vs1, d1, ds1, p1, q1, rfl, rfl, rfl, h1, r1⟩ := trodAll_cons r0
  obtain ⟨rfl, rfl, rfl⟩ := trodAll_nil r1
  obtain rfl : args = #[v0, v1] := by cases args; simp_all
  obtain ⟨rfl, rfl⟩ := trodVars_none hV
  have k0 := h0
  have k1 := h1
  have lt0 : ∀ x ∈ p0, x.block < W.heap.size := by obtain ⟨m, hm⟩ := k0; exact DataW.trod_lt m _ _ _ hm
  have lt1 : ∀ x ∈ p1, x.block < W.heap.size := by obtain ⟨m, hm⟩ := k1; exact DataW.trod_lt m _ _ _ hm
  obtain ⟨kd0, sz0, ad0, pl0, mi0, se0, of0, A0, n0, c0, l0, rfl, b0, hl0⟩ := open_case (hval 0 28 v0 rfl rfl) h0
  obtain ⟨A1, n1, c1, rfl⟩ := okWide_slice Try.underlying60 (hval 1 60 v1 rfl rfl)
  obtain ⟨rows1, hr1, hm1⟩ := open_rows Try.underlying60 (flat_int Try.underlying5) (by kernel_rfl) (by decide) h1
  obtain ⟨l1, hl1⟩ := brow_of hr1
  clear hA0 hval0
  refine (walk kd0 sz0 ad0 pl0 mi0 se0 of0 A0 n0 c0 l0 A1 n1 c1 l1 W b0 hl0 hl1 hm1).mono fun e W' ⟨he, bel⟩ => ?_
  subst he
  exact ⟨_, rfl, _, _, _, [], _, [], hW', trodAll_mk1 (shut_bool Try.underlying4 _), (trodAll_cons_mk (Below.trod laidOut (by kernel_rfl) (of_decide_eq_true (by kernel_rfl)) k0 bel lt0) (trodAll_cons_mk (Below.trod laidOut (by kernel_rfl) (of_decide_eq_true (by kernel_rfl)) k1 bel lt1) trodAll_mk0)), rfl, bel.frame _, fun h => by cases h⟩

theorem proved : Rows.FixupOneSaid :=
  OpenClaim.holds_of_wide 6 Try.f6 rfl rfl rfl rfl rfl rfl rfl ⟨rfl, rfl, rfl, rfl, rfl⟩ rfl rfl rfl rfl rfl (by kernel_rfl) Try.func6 (by kernel_rfl)
    (of_decide_eq_true (by kernel_rfl)) (by unfold Func.isWrapper; first | (rw [if_pos (by decide +kernel)]; kernel_rfl) | (rw [if_neg (by decide +kernel)]; exact ⟨rfl, rfl⟩))
    (fun os started H enc _ => lifted os started H enc)

#print axioms proved
end Go.Proofs.Ytddfafapahnaaaa.lawFixupOne
