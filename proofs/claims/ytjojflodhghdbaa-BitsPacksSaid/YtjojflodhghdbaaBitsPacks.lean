/- PROVED: BitsPacks returns true for every word, all fields and all values; each argument reads behind the call as it read before. No condition. -/
import Derived.Test.YtjojflodhghdbaaLaw01L
import Derived.Test.YtjojflodhghdbaaPackW
namespace Go.Proofs.Ytjojflodhghdbaa.lawBitsPacks
open Go.ChangeShapes Go.WideShapes Go.ChangeAt Go.RowKit Go.Sort Go.Joins
attribute [local go_sem] cell_gr frozen_gr
set_option linter.unusedVariables false

theorem walk (x : Int) (A : Option Addr) (n ca : Nat) (l : List (Int × Int)) (B : Option Addr) (m cb : Nat) (v : List Int) (w : World) (hx : U32 x) (hl : FRow w A n l) (hn : n ≤ maxLen) (hv : WRow w B m v) (hm : m ≤ maxLen) :
    Calls Try.prog 6 #[.int .u32 x, .slice A n ca, .slice B m cb] w (Ret (.bool true) w) := by
  unfold maxLen at hn hm
  have hB : Below w.heap.size w w := Below.refl _ _
  have hn2 : n ≤ 9223372036854775807 := by omega
  have hm2 : m ≤ 9223372036854775807 := by omega
  by_cases h2 : n ≤ 200
  · have h2' : (n : Int) ≤ 200 := by omega
    go_enter Try.func6, Try.ntmps6
    go_wp2_with (first
      | (go_at_call 14; refine (live_any _).mono ?_; rintro e w1 ⟨rfl, hb⟩; replace hB := bthen hB hb hB.size)
      | (go_at_call 29; refine (pack_any _ _ _ _ _ _ _ _ _ _ hx (hl.keep hB) (hv.keep hB) hn2 hm2).mono ?_; rintro e w1 ⟨rfl, hb⟩; replace hB := bthen hB hb hB.size)
      | (go_at_call 30; refine (rpack_any _ _ _ _ _ _ _ _ _ _ hx (hl.keep hB) (hv.keep hB) hn2 hm2).mono ?_; rintro e w1 ⟨rfl, hb⟩; replace hB := bthen hB hb hB.size)
      | (go_at_call 31; refine (apart_any _ _ _ _ _ (hl.keep hB) hn2).mono ?_; rintro e w1 ⟨rfl, hb⟩; replace hB := bthen hB hb hB.size)
      | (go_at_call 28; refine (rapart_any _ _ _ _ _ (hl.keep hB) hn2).mono ?_; rintro e w1 ⟨rfl, hb⟩; replace hB := bthen hB hb hB.size)
      | go_in)
    go_ret
    exact ⟨rfl, hB⟩
  · have h2' : decide ((n : Int) ≤ 200) = false := by simp; omega
    go_enter Try.func6, Try.ntmps6
    go_wp2_with (first
      | (go_at_call 14; refine (live_any _).mono ?_; rintro e w1 ⟨rfl, hb⟩; replace hB := bthen hB hb hB.size)
      | go_in)
    go_ret
    exact ⟨rfl, hB⟩

theorem flatF : Flat Try.prog 24 [isInt .i64, isInt .i64] :=
  flat_struct Try.underlying24 (by kernel_rfl) (flat_cons (k1 := [isInt .i64]) rfl (by kernel_rfl) (flat_int Try.underlying3) (flat_cons (k1 := [isInt .i64]) rfl (by kernel_rfl) (flat_int Try.underlying3) (flat_nil _ _)))
theorem own : ownKnob Try.prog.godebug = none := by kernel_rfl
theorem laidOut : laidOutB Try.prog = true := by kernel_rfl
set_option maxRecDepth 100000 in
theorem lifted (os : Os) (started : os.Started) (H : Type) (enc : TypeId × Value → H) :
    ReturnsInHanded {} Try.checked os 6 .any (Rows.bitsPacksSpec.pre6 enc Try.prog Try.f6 Rows.bitsPacksRow.domain false) (Rows.bitsPacksSpec.post enc Try.prog Try.f6 false true false false) := by
  refine returnsInHanded_of_change (C := Try.checked) own started (by kernel_rfl) Try.func6
    (ChangeSpec.witness6 (enc := enc) (C := Try.checked) false ⟨#[], #[.int .u32 0, .slice none 0 0, .slice none 0 0], []⟩ 8 (by kernel_rfl) (by kernel_rfl) (by kernel_rfl) (by kernel_rfl)) ?_
  intro W base args ds gs before hval0 hW hcnd _
  have hval : ∀ (j : Nat) t v, Try.f6.params[j]? = some t → args[j]? = some v → Value.okWide Try.prog W .any base t v := hval0
  have hW' := hW
  obtain ⟨p, q, hA0, hV, rfl, hfz, hnd⟩ := hW
  have hA : DataW.TrodAll enc Try.prog W 0 (fun _ => true) true Try.f6.params.toList args.toList ds p := hA0
  rw [Try.params6] at hA hval
  obtain ⟨v0, vs0, d0, ds0, p0, q0, hargs, rfl, rfl, h0, r0⟩ := trodAll_cons hA
  obtain ⟨v1, vs1, d1, ds1, p1, q1, rfl, rfl, rfl, h1, r1⟩ := trodAll_cons r0
  obtain ⟨v2, vs2, d2, ds2, p2, q2, rfl, rfl, rfl, h2, r2⟩ := trodAll_cons r1
  obtain ⟨rfl, rfl, rfl⟩ := trodAll_nil r2
  obtain rfl : args = #[v0, v1, v2] := by cases args; simp_all
  obtain ⟨rfl, rfl⟩ := trodVars_none hV
  have k0 := h0
  have k1 := h1
  have k2 := h2
  have lt0 : ∀ x ∈ p0, x.block < W.heap.size := by obtain ⟨m, hm⟩ := k0; exact DataW.trod_lt m _ _ _ hm
  have lt1 : ∀ x ∈ p1, x.block < W.heap.size := by obtain ⟨m, hm⟩ := k1; exact DataW.trod_lt m _ _ _ hm
  have lt2 : ∀ x ∈ p2, x.block < W.heap.size := by obtain ⟨m, hm⟩ := k2; exact DataW.trod_lt m _ _ _ hm
  obtain ⟨a0, rfl, _, _, w0⟩ := open_int Try.underlying22 (hval 0 22 v0 rfl rfl) h0
  obtain ⟨A1, n1, c1, rfl⟩ := okWide_slice Try.underlying39 (hval 1 39 v1 rfl rfl)
  obtain ⟨rows1, hr1, hm1⟩ := open_rows Try.underlying39 flatF (by kernel_rfl) (by decide) h1
  obtain ⟨l1, hl1⟩ := frow_of hr1
  obtain ⟨A2, n2, c2, rfl⟩ := okWide_slice Try.underlying40 (hval 2 40 v2 rfl rfl)
  obtain ⟨rows2, hr2, hm2⟩ := open_rows Try.underlying40 (flat_int Try.underlying22) (by kernel_rfl) (by decide) h2
  obtain ⟨l2, hl2⟩ := wrow_of hr2
  clear hA0 hval0
  refine (walk a0 A1 n1 c1 l1 A2 n2 c2 l2 W (u32_wf w0) hl1 hm1 hl2 hm2).mono fun e W' ⟨he, bel⟩ => ?_
  subst he
  exact ⟨_, rfl, _, _, _, [], _, [], hW', trodAll_mk1 (shut_bool Try.underlying4 _), (trodAll_cons_mk (Below.trod laidOut (by kernel_rfl) (of_decide_eq_true (by kernel_rfl)) k0 bel lt0) (trodAll_cons_mk (Below.trod laidOut (by kernel_rfl) (of_decide_eq_true (by kernel_rfl)) k1 bel lt1) (trodAll_cons_mk (Below.trod laidOut (by kernel_rfl) (of_decide_eq_true (by kernel_rfl)) k2 bel lt2) trodAll_mk0))), rfl, bel.frame _, fun h => by cases h⟩

theorem proved : Rows.BitsPacksSaid :=
  OpenClaim.holds_of_wide 6 Try.f6 rfl rfl rfl rfl rfl rfl rfl ⟨rfl, rfl, rfl, rfl, rfl⟩ rfl rfl rfl rfl rfl (by kernel_rfl) Try.func6 (by kernel_rfl)
    (of_decide_eq_true (by kernel_rfl)) (by unfold Func.isWrapper; first | (rw [if_pos (by decide +kernel)]; kernel_rfl) | (rw [if_neg (by decide +kernel)]; exact ⟨rfl, rfl⟩))
    (fun os started H enc _ => lifted os started H enc)
#print axioms proved
end Go.Proofs.Ytjojflodhghdbaa.lawBitsPacks
