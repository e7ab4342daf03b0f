/- PROVED: DecUnlike returns true for every two words and every bit; the arguments read behind the call as they read before. No condition. -/
import Derived.Test.YtopfaapcekiojaaDecU0
import Derived.Test.YtopfaapcekiojaaDecU1
import Derived.Test.YtopfaapcekiojaaDecU2
import Derived.Test.YtopfaapcekiojaaDecU3
import Derived.Handy
import Derived.ProofKit
import Derived.OpenShut
import Derived.Lib.SmallJoins
namespace Go.Proofs.Ytopfaapcekiojaa.lawDecUnlike
open Go.ChangeShapes Go.WideShapes Go.ChangeAt Go.RowKit Go.Sort Go.Joins Sym
set_option linter.unusedVariables false

theorem run_any (k : Nat) (h : k < 256) : runB k = true := by
  by_cases h0 : k < 32
  · exact allK_ok run_0 k (by omega) (by omega)
  by_cases h1 : k < 64
  · exact allK_ok run_1 k (by omega) (by omega)
  by_cases h2 : k < 96
  · exact allK_ok run_2 k (by omega) (by omega)
  by_cases h3 : k < 128
  · exact allK_ok run_3 k (by omega) (by omega)
  by_cases h4 : k < 160
  · exact allK_ok run_4 k (by omega) (by omega)
  by_cases h5 : k < 192
  · exact allK_ok run_5 k (by omega) (by omega)
  by_cases h6 : k < 224
  · exact allK_ok run_6 k (by omega) (by omega)
  · exact allK_ok run_7 k (by omega) (by omega)
theorem walk (a b t : Int) (w : World) (ha : U32 a) (hb : U32 b) (ht : 0 ≤ t ∧ t < 256) : Calls Try.prog 9 #[.int .u32 a, .int .u32 b, .int .u8 t] w (Ret (.bool true) w) := by
  obtain ⟨k, rfl⟩ := Int.eq_ofNat_of_zero_le ht.1
  have hk : k < 256 := by have := ht.2; omega
  have ok : (uCx k).Ok (uEnv a b w) := by
    refine ⟨?_, (by intro i l h e; cases e), fun _ => rfl, insM, ?_⟩
    · refine bd_cons (show 0 ≤ a ∧ a ≤ 4294967295 from ⟨ha.1, Int.le_of_lt_add_one (by have := ha.2; show a < _; omega)⟩) (bd_cons (show 0 ≤ b ∧ b ≤ 4294967295 from ⟨hb.1, Int.le_of_lt_add_one (by have := hb.2; show b < _; omega)⟩) (by intro i l h e; cases e))
    · intro p hp
      replace hp : p ∈ [(condT (.var 8) (.var 9), false), (condT (.var 8) (otherT k), false)] := hp
      simp only [List.mem_cons, List.not_mem_nil, or_false] at hp
      rcases hp with rfl | rfl
      · exact cond_no ha (.var 9) hb
      · refine cond_no ha (otherT k) ?_
        have q := wrap_in .u32 ((BitVec.ofInt IntKind.u32.bits a ^^^ BitVec.ofInt IntKind.u32.bits (p2 (k % 32))).toNat : Int)
        exact ⟨q.1, Int.lt_of_le_of_lt q.2 (by decide)⟩
  have hr := run_any k hk
  unfold runB at hr
  refine runF_true (cx := uCx k) ok (sums_of ?_) insM rfl rfl (args := [.p (.c (.int .u32 (.var 8))), .p (.c (.int .u32 (.var 9))), .p (.c (.int .u8 (.lit (.ofNat k))))]) (vals := [.int .u32 a, .int .u32 b, .int .u8 (.ofNat k)]) rfl hr
  intro p hp
  replace hp : p ∈ [(31, patS [] (.p (.c (.bool .tt)))), (32, decLS)] := hp
  simp only [List.mem_cons, List.not_mem_nil, or_false] at hp
  rcases hp with rfl | rfl
  · exact pat_s (vals := []) (x := .bool true) (fun β => rfl) (fun β => rfl) begun_any
  · exact decLS_s rfl
theorem own : ownKnob Try.prog.godebug = none := by kernel_rfl
theorem laidOut : laidOutB Try.prog = true := by kernel_rfl
set_option maxRecDepth 100000 in
theorem lifted (os : Os) (started : os.Started) (H : Type) (enc : TypeId × Value → H) :
    ReturnsInHanded {} Try.checked os 9 .any (Rows.decUnlikeSpec.pre6 enc Try.prog Try.f9 Rows.decUnlikeRow.domain false) (Rows.decUnlikeSpec.post enc Try.prog Try.f9 false true false false) := by
  refine returnsInHanded_of_change (C := Try.checked) own started (by kernel_rfl) Try.func9
    (ChangeSpec.witness6 (enc := enc) (C := Try.checked) false ⟨#[], #[.int .u32 0, .int .u32 0, .int .u8 0], []⟩ 8 (by kernel_rfl) (by kernel_rfl) (by kernel_rfl) (by kernel_rfl)) ?_
  intro W base args ds gs before hval0 hW hcnd _
  have hval : ∀ (j : Nat) t v, Try.f9.params[j]? = some t → args[j]? = some v → Value.okWide Try.prog W .any base t v := hval0
  have hW' := hW
  obtain ⟨p, q, hA0, hV, rfl, hfz, hnd⟩ := hW
  have hA : DataW.TrodAll enc Try.prog W 0 (fun _ => true) true Try.f9.params.toList args.toList ds p := hA0
  rw [Try.params9] at hA hval
  obtain ⟨v0, vs0, d0, ds0, p0, q0, hargs, rfl, rfl, h0, r0⟩ := trodAll_cons hA
  obtain ⟨v1, vs1, d1, ds1, p1, q1, rfl, rfl, rfl, h1, r1⟩ := trodAll_cons r0
  obtain ⟨v2, vs2, d2, ds2, p2, q2, rfl, rfl, rfl, h2, r2⟩ := trodAll_cons r1
  obtain ⟨rfl, rfl, rfl⟩ := trodAll_nil r2
  obtain rfl : args = #[v0, v1, v2] := by cases args; simp_all
  obtain ⟨rfl, rfl⟩ := trodVars_none hV
  have k0 := h0
  have k1 := h1
  have k2 := h2
  have lt0 : ∀ x ∈ p0, x.block < W.heap.size := by obtain ⟨m, hm⟩ := k0; exact DataW.trod_lt m _ _ _ hm
  have lt1 : ∀ x ∈ p1, x.block < W.heap.size := by obtain ⟨m, hm⟩ := k1; exact DataW.trod_lt m _ _ _ hm
  have lt2 : ∀ x ∈ p2, x.block < W.heap.size := by obtain ⟨m, hm⟩ := k2; exact DataW.trod_lt m _ _ _ hm
  obtain ⟨a0, rfl, _, _, w0⟩ := open_int Try.underlying52 (hval 0 52 v0 rfl rfl) h0
  obtain ⟨a1, rfl, _, _, w1⟩ := open_int Try.underlying52 (hval 1 52 v1 rfl rfl) h1
  obtain ⟨a2, rfl, _, _, w2⟩ := open_int Try.underlying5 (hval 2 5 v2 rfl rfl) h2
  clear hA0 hval0
  refine (walk a0 a1 a2 W (u32_wf w0) (u32_wf w1) (u8_wf w2)).mono fun e W' ⟨he, bel⟩ => ?_
  subst he
  exact ⟨_, rfl, _, _, _, [], _, [], hW', trodAll_mk1 (shut_bool Try.underlying4 _), (trodAll_cons_mk (Below.trod laidOut (by kernel_rfl) (of_decide_eq_true (by kernel_rfl)) k0 bel lt0) (trodAll_cons_mk (Below.trod laidOut (by kernel_rfl) (of_decide_eq_true (by kernel_rfl)) k1 bel lt1) (trodAll_cons_mk (Below.trod laidOut (by kernel_rfl) (of_decide_eq_true (by kernel_rfl)) k2 bel lt2) trodAll_mk0))), rfl, bel.frame _, fun h => by cases h⟩

theorem proved : Rows.DecUnlikeSaid :=
  OpenClaim.holds_of_wide 9 Try.f9 rfl rfl rfl rfl rfl rfl rfl ⟨rfl, rfl, rfl, rfl, rfl⟩ rfl rfl rfl rfl rfl (by kernel_rfl) Try.func9 (by kernel_rfl)
    (of_decide_eq_true (by kernel_rfl)) (by unfold Func.isWrapper; first | (rw [if_pos (by decide +kernel)]; kernel_rfl) | (rw [if_neg (by decide +kernel)]; exact ⟨rfl, rfl⟩))
    (fun os started H enc _ => lifted os started H enc)

#print axioms proved
end Go.Proofs.Ytopfaapcekiojaa.lawDecUnlike
