/- PROVED: FixupLinked returns true for every case and whatever addresses; the arguments read behind the call as they read before. No condition. -/
import Derived.Test.YtddfafapahnaaaaLnkR0
import Derived.Test.YtddfafapahnaaaaLnkR1
import Derived.Test.YtddfafapahnaaaaLnkR2
import Derived.Test.YtddfafapahnaaaaLnkR3
import Derived.Test.YtddfafapahnaaaaLnkC
import Derived.Test.YtddfafapahnaaaaCaseO
import Derived.Handy
import Derived.ProofKit
import Derived.OpenShut
import Derived.Lib.SmallJoins
namespace Go.Proofs.Ytddfafapahnaaaa.lawFixupLinked
open Go.ChangeShapes Go.WideShapes Go.ChangeAt Go.RowKit Go.Sort Go.Joins Sym Lnk
set_option linter.unusedVariables false

theorem irow_of {w : World} {A : Option Addr} {n : Nat} {rows : List (List Value)} (h : RowsOf w A n [isInt .i64] rows) : ∃ l, n ≤ maxLen → NRow w A n l := by
  by_cases hm : n ≤ maxLen
  · obtain ⟨l, hl⟩ := nrow_of hm h
    exact ⟨l, fun _ => hl⟩
  · exact ⟨[], fun h => absurd h hm⟩
theorem run_any (kd sz : Int) (h : checkB kd sz = true) : lnkB (.lit kd) (.lit sz) 0 true = true := by
  have := (checkB_iff kd sz).1 h
  have c : (sz = 0 ∧ (kd = 1 ∨ kd = 2 ∨ kd = 3 ∨ kd = 4 ∨ kd = 5 ∨ kd = 6 ∨ kd = 7 ∨ kd = 8 ∨ kd = 9 ∨ kd = 10 ∨ kd = 11 ∨ kd = 12)) ∨ (kd = 9 ∧ (sz = 1 ∨ sz = 2 ∨ sz = 3)) := by omega
  rcases c with ⟨rfl, c⟩ | ⟨rfl, c⟩
  · rcases c with rfl | rfl | rfl | rfl | rfl | rfl | rfl | rfl | rfl | rfl | rfl | rfl
    · exact run_1_0
    · exact run_2_0
    · exact run_3_0
    · exact run_4_0
    · exact run_5_0
    · exact run_6_0
    · exact run_7_0
    · exact run_8_0
    · exact run_9_0
    · exact run_10_0
    · exact run_11_0
    · exact run_12_0
  · rcases c with rfl | rfl | rfl
    · exact run_9_1
    · exact run_9_2
    · exact run_9_3
theorem pat_h {cx : Ctx} {ρ : Env} {f : FuncId} {pat : List SV} {v : SV} {vals : List Value} {x : Value} (hp : ∀ β, denA ρ β pat = some vals) (hx : ∀ β, v.den ρ β = some x) (h : ∀ w, Calls cx.P f vals.toArray w (Ret x w)) : SumOk cx ρ f (patS pat v) := by
  refine patS_ok fun β vs w _ ha => ?_
  rw [hp] at ha
  cases ha
  exact ⟨x, hx β, h w⟩
theorem walk (kd sz add : Int) (pl mi : ByteArray) (sec off : Int) (A : Option Addr) (n ca : Nat) (l : List Sy) (SA : Option Addr) (ns cs : Nat) (S : List Int) (EA : Option Addr) (ne ce : Nat) (E : List Int) (w : World) (hb : I64 kd ∧ I64 sz ∧ I64 add ∧ I64 sec ∧ I64 off) (hl : SRow w A n l)
    (hS' : ns ≤ maxLen → NRow w SA ns S) (hsm : ns ≤ maxLen) (hE' : ne ≤ maxLen → NRow w EA ne E) (hem : ne ≤ maxLen) :
    Calls Try.prog 4 #[.agg #[.int .i64 kd, .int .i64 sz, .int .i64 add, .string pl, .string mi, .int .i64 sec, .int .i64 off, .slice A n ca], .slice SA ns cs, .slice EA ne ce] w (Ret (.bool true) w) := by
  have hS := hS' hsm
  have hE := hE' hem
  have args : ∀ (P M : Option Pt) (k s : SE), k.int (lnkEnv w kd sz add sec off n ca A pl mi P M ns cs SA S ne ce EA E) = kd → s.int (lnkEnv w kd sz add sec off n ca A pl mi P M ns cs SA S ne ce EA E) = sz →
      denA (lnkEnv w kd sz add sec off n ca A pl mi P M ns cs SA S ne ce EA E) noLay (caseL k s :: outL) = some [.agg #[.int .i64 kd, .int .i64 sz, .int .i64 add, .string pl, .string mi, .int .i64 sec, .int .i64 off, .slice A n ca], .slice SA ns cs, .slice EA ne ce] := by
    intro P M k s hk hs
    show some [Value.agg #[.int .i64 (k.int _), .int .i64 (s.int _), .int .i64 add, .string pl, .string mi, .int .i64 sec, .int .i64 off, .slice A (Int.toNat ((n : Nat) : Int)) ca], Value.slice SA (Int.toNat ((ns : Nat) : Int)) cs, Value.slice EA (Int.toNat ((ne : Nat) : Int)) ce] = _
    rw [hk, hs, Int.toNat_natCast, Int.toNat_natCast, Int.toNat_natCast]
  have hole : ∀ (P M : Option Pt) (k s : SE), k.int (lnkEnv w kd sz add sec off n ca A pl mi P M ns cs SA S ne ce EA E) = kd → s.int (lnkEnv w kd sz add sec off n ca A pl mi P M ns cs SA S ne ce EA E) = sz → ∀ β,
      denA (lnkEnv w kd sz add sec off n ca A pl mi P M ns cs SA S ne ce EA E) β [.p (.agg (hL k s))] = some [holeV kd sz add pl mi] := by
    intro P M k s hk hs β
    show some [Value.agg #[.int .i64 (k.int _), .int .i64 (s.int _), .int .i64 add, .string pl, .string mi]] = _
    rw [hk, hs]
    rfl
  by_cases hs0 : 0 ≤ sec
  · have go : ∀ (k s : SE) (z : Int) (b : Bool) (P M : Option Pt), k.int (lnkEnv w kd sz add sec off n ca A pl mi P M ns cs SA S ne ce EA E) = kd → s.int (lnkEnv w kd sz add sec off n ca A pl mi P M ns cs SA S ne ce EA E) = sz → checkE kd sz = z →
        P = (part pl sec off l).getD none → (M = if (part pl sec off l).isSome then (part mi sec off l).getD none else none) → b = ((part pl sec off l).isSome && (part mi sec off l).isSome) → lnkB k s z b = true →
        Calls Try.prog 4 #[.agg #[.int .i64 kd, .int .i64 sz, .int .i64 add, .string pl, .string mi, .int .i64 sec, .int .i64 off, .slice A n ca], .slice SA ns cs, .slice EA ne ce] w (Ret (.bool true) w) := by
      intro k s z b P M hk hs hz hP hM hb2 hr
      unfold lnkB at hr
      have hM' : M = (part mi sec off l).getD none ∨ M = none := by rw [hM]; split <;> simp
      refine runF_true (cx := lnkCx k s z b) (ρ := lnkEnv w kd sz add sec off n ca A pl mi P M ns cs SA S ne ce EA E) (lnk_ok rfl hl hS hE hb.2.2.1 hb.2.2.2.1 hb.2.2.2.2 hs0 hP hM') (sums_of ?_) mixed rfl rfl (args P M k s hk hs) hr
      intro p hp
      replace hp : p ∈ lnkSums k s z b := hp
      have three : p = (9, patS [] (.p (.c (.bool .tt)))) ∨ p = (19, patS [.p (.agg (hL k s))] (.p (.c (.int .i64 (.lit z))))) ∨ p = (32, partsS (litB b)) ∨ (b = true ∧ p = (12, adrS k s)) := by
        unfold lnkSums at hp
        rcases List.mem_cons.1 hp with h | hp
        · exact .inl h
        rcases List.mem_cons.1 hp with h | hp
        · exact .inr (.inl h)
        rcases List.mem_cons.1 hp with h | hp
        · exact .inr (.inr (.inl h))
        cases b with
        | false => cases hp
        | true =>
          rcases List.mem_cons.1 hp with h | hp
          · exact .inr (.inr (.inr ⟨rfl, h⟩))
          · cases hp
      rcases three with rfl | rfl | rfl | ⟨hbt, rfl⟩
      · exact pat_h (vals := []) (x := .bool true) (fun β => rfl) (fun β => rfl) live_any
      · exact pat_h (hole P M k s hk hs) (x := .int .i64 z) (fun β => rfl) (fun w => by have := check_any kd sz add pl mi w; rw [hz] at this; exact this)
      · exact parts_s rfl rfl hl (litB b) hP hM (by rw [litB_ok]; exact hb2)
      · rw [hbt] at hb2
        have hb2 := hb2.symm
        simp only [Bool.and_eq_true] at hb2
        obtain ⟨P', hp'⟩ := Option.isSome_iff_exists.1 hb2.1
        obtain ⟨M', hm'⟩ := Option.isSome_iff_exists.1 hb2.2
        have eP : P = P' := by rw [hP, hp']; rfl
        have eM : M = M' := by rw [hM, if_pos hb2.1, hm']; rfl
        exact adr_s (ρ := lnkEnv w kd sz add sec off n ca A pl mi P M ns cs SA S ne ce EA E) rfl rfl hl hS hE hb.2.2.2.1 hs0 (by rw [eP]; exact hp') (by rw [eM]; exact hm') hk hs
    cases hc : checkB kd sz with
    | false =>
      have e1 : checkE kd sz = 1 := by unfold checkE; rw [hc]; rfl
      cases h : ((part pl sec off l).isSome && (part mi sec off l).isSome) with
      | true => exact go (.var 0) (.var 1) 1 true _ _ rfl rfl e1 rfl rfl h.symm run_bad
      | false => exact go (.var 0) (.var 1) 1 false _ _ rfl rfl e1 rfl rfl h.symm run_bad2
    | true =>
      have e0 : checkE kd sz = 0 := by unfold checkE; rw [hc]; rfl
      cases h : ((part pl sec off l).isSome && (part mi sec off l).isSome) with
      | true => exact go (.lit kd) (.lit sz) 0 true _ _ rfl rfl e0 rfl rfl h.symm (run_any kd sz hc)
      | false => exact go (.var 0) (.var 1) 0 false _ _ rfl rfl e0 rfl rfl h.symm run_none
  · refine runF_true (cx := lnkCxN) (ρ := lnkEnv w kd sz add sec off n ca A pl mi none none ns cs SA S ne ce EA E) ⟨?_, fb_ok rfl hS, one_ok rfl, mixed, ?_, (by intro i m e x j h; cases h), (by intro j t i c m h; cases h), (by intro j t c y h; cases h)⟩ (sums_of ?_) mixed rfl rfl (args none none (.var 0) (.var 1) rfl rfl) run_neg
    · intro i lo h hi
      exact bd_ok rfl hl hS hE hb.2.2.1 hb.2.2.2.1 hb.2.2.2.2 (.inr rfl) (.inr rfl) i lo h hi
    · intro p hp
      replace hp : p ∈ [(SE.bin .lt (.var 3) (.lit 0), true)] := hp
      simp only [List.mem_cons, List.not_mem_nil, or_false] at hp
      subst hp
      show decide (sec < 0) = true
      simp; omega
    · intro p hp
      replace hp : p ∈ [(9, patS [] (.p (.c (.bool .tt))))] := hp
      simp only [List.mem_cons, List.not_mem_nil, or_false] at hp
      subst hp
      exact pat_h (vals := []) (x := .bool true) (fun β => rfl) (fun β => rfl) live_any
theorem own : ownKnob Try.prog.godebug = none := by kernel_rfl
theorem laidOut : laidOutB Try.prog = true := by kernel_rfl
set_option maxRecDepth 100000 in
theorem lifted (os : Os) (started : os.Started) (H : Type) (enc : TypeId × Value → H) :
    ReturnsInHanded {} Try.checked os 4 .any (Rows.fixupLinkedSpec.pre6 enc Try.prog Try.f4 Rows.fixupLinkedRow.domain false) (Rows.fixupLinkedSpec.post enc Try.prog Try.f4 false true false false) := by
  refine returnsInHanded_of_change (C := Try.checked) own started (by kernel_rfl) Try.func4
    (ChangeSpec.witness6 (enc := enc) (C := Try.checked) false ⟨#[], #[.agg #[.int .i64 0, .int .i64 0, .int .i64 0, .string ⟨#[]⟩, .string ⟨#[]⟩, .int .i64 0, .int .i64 0, .slice none 0 0], .slice none 0 0, .slice none 0 0], []⟩ 8 (by kernel_rfl) (by kernel_rfl) (by kernel_rfl) (by kernel_rfl)) ?_
  intro W base args ds gs before hval0 hW hcnd _
  have hval : ∀ (j : Nat) t v, Try.f4.params[j]? = some t → args[j]? = some v → Value.okWide Try.prog W .any base t v := hval0
  have hW' := hW
  obtain ⟨p, q, hA0, hV, rfl, hfz, hnd⟩ := hW
  have hA : DataW.TrodAll enc Try.prog W 0 (fun _ => true) true Try.f4.params.toList args.toList ds p := hA0
  rw [Try.params4] at hA hval
  obtain ⟨v0, vs0, d0, ds0, p0, q0, hargs, rfl, rfl, h0, r0⟩ := trodAll_cons hA
  obtain ⟨v1, vs1, d1, ds1, p1, q1, rfl, rfl, rfl, h1, r1⟩ := trodAll_cons r0
  obtain ⟨v2, vs2, d2, ds2, p2, q2, rfl, rfl, rfl, h2, r2⟩ := trodAll_cons r1
  obtain ⟨rfl, rfl, rfl⟩ := trodAll_nil r2
  obtain rfl : args = #[v0, v1, v2] := by cases args; simp_all
  obtain ⟨rfl, rfl⟩ := trodVars_none hV
  have k0 := h0
  have k1 := h1
  have k2 := h2
  have lt0 : ∀ x ∈ p0, x.block < W.heap.size := by obtain ⟨m, hm⟩ := k0; exact DataW.trod_lt m _ _ _ hm
  have lt1 : ∀ x ∈ p1, x.block < W.heap.size := by obtain ⟨m, hm⟩ := k1; exact DataW.trod_lt m _ _ _ hm
  have lt2 : ∀ x ∈ p2, x.block < W.heap.size := by obtain ⟨m, hm⟩ := k2; exact DataW.trod_lt m _ _ _ hm
  obtain ⟨kd0, sz0, ad0, pl0, mi0, se0, of0, A0, n0, c0, l0, rfl, b0, hl0⟩ := open_case (hval 0 28 v0 rfl rfl) h0
  obtain ⟨A1, n1, c1, rfl⟩ := okWide_slice Try.underlying39 (hval 1 39 v1 rfl rfl)
  obtain ⟨rows1, hr1, hm1⟩ := open_rows Try.underlying39 (flat_int Try.underlying2) (by kernel_rfl) (by decide) h1
  obtain ⟨l1, hl1⟩ := irow_of hr1
  obtain ⟨A2, n2, c2, rfl⟩ := okWide_slice Try.underlying39 (hval 2 39 v2 rfl rfl)
  obtain ⟨rows2, hr2, hm2⟩ := open_rows Try.underlying39 (flat_int Try.underlying2) (by kernel_rfl) (by decide) h2
  obtain ⟨l2, hl2⟩ := irow_of hr2
  clear hA0 hval0
  refine (walk kd0 sz0 ad0 pl0 mi0 se0 of0 A0 n0 c0 l0 A1 n1 c1 l1 A2 n2 c2 l2 W b0 hl0 hl1 hm1 hl2 hm2).mono fun e W' ⟨he, bel⟩ => ?_
  subst he
  exact ⟨_, rfl, _, _, _, [], _, [], hW', trodAll_mk1 (shut_bool Try.underlying4 _), (trodAll_cons_mk (Below.trod laidOut (by kernel_rfl) (of_decide_eq_true (by kernel_rfl)) k0 bel lt0) (trodAll_cons_mk (Below.trod laidOut (by kernel_rfl) (of_decide_eq_true (by kernel_rfl)) k1 bel lt1) (trodAll_cons_mk (Below.trod laidOut (by kernel_rfl) (of_decide_eq_true (by kernel_rfl)) k2 bel lt2) trodAll_mk0))), rfl, bel.frame _, fun h => by cases h⟩

theorem proved : Rows.FixupLinkedSaid :=
  OpenClaim.holds_of_wide 4 Try.f4 rfl rfl rfl rfl rfl rfl rfl ⟨rfl, rfl, rfl, rfl, rfl⟩ rfl rfl rfl rfl rfl (by kernel_rfl) Try.func4 (by kernel_rfl)
    (of_decide_eq_true (by kernel_rfl)) (by unfold Func.isWrapper; first | (rw [if_pos (by decide +kernel)]; kernel_rfl) | (rw [if_neg (by decide +kernel)]; exact ⟨rfl, rfl⟩))
    (fun os started H enc _ => lifted os started H enc)

#print axioms proved
end Go.Proofs.Ytddfafapahnaaaa.lawFixupLinked
