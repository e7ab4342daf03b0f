/- The reference's Decode: it gives what Decode gives. -/
import Derived.Test.YtopfaapcekiojaaGreatDecD1
namespace Go.Proofs.YtopfaapcekiojaaGreat.Two
open Go Go.RowKit Go.Proofs.YtopfaapcekiojaaGreat Sym
set_option linter.unusedVariables false

theorem axs_mem : ∀ {n k : Nat} {p : SE × Bool}, p ∈ axs n k → ∃ j, k ≤ j ∧ j < k + n ∧ p = (condT j, false)
  | 0, _, _, h => by cases h
  | n + 1, k, p, h => by
    rcases List.mem_cons.1 h with rfl | h
    · exact ⟨k, by omega, by omega, rfl⟩
    · obtain ⟨j, h1, h2, h3⟩ := axs_mem h
      exact ⟨j, by omega, by omega, h3⟩
theorem pats1_mem : ∀ {n k : Nat} {p : List SV × SV}, p ∈ pats1 n k → ∃ j, k ≤ j ∧ j < k + n ∧ p = ([wS, .p (.c (.int .i64 (.lit (.ofNat j))))], .p (.agg (gCells j)))
  | 0, _, _, h => by cases h
  | n + 1, k, p, h => by
    rcases List.mem_cons.1 h with rfl | h
    · exact ⟨k, by omega, by omega, rfl⟩
    · obtain ⟨j, h1, h2, h3⟩ := pats1_mem h
      exact ⟨j, by omega, by omega, h3⟩
theorem pats2_mem : ∀ {n k : Nat} {p : List SV × SV}, p ∈ pats2 n k → ∃ j, k ≤ j ∧ j < k + n ∧ p = ([.p (.agg (gCells j))], .tup [.c (.int .u32 (ap 21 j 0)), .c (.int .i64 (ap 22 j 0))])
  | 0, _, _, h => by cases h
  | n + 1, k, p, h => by
    rcases List.mem_cons.1 h with rfl | h
    · exact ⟨k, by omega, by omega, rfl⟩
    · obtain ⟨j, h1, h2, h3⟩ := pats2_mem h
      exact ⟨j, by omega, by omega, h3⟩
theorem first {p : Nat → Prop} : (∀ k, 1 ≤ k → k < 33 → ¬ p k) ∨ ∃ k, 1 ≤ k ∧ k < 33 ∧ p k ∧ ∀ j, 1 ≤ j → j < k → ¬ p j := by
  have go : ∀ n, (∀ k, 1 ≤ k → k < n → ¬ p k) ∨ ∃ k, 1 ≤ k ∧ k < n ∧ p k ∧ ∀ j, 1 ≤ j → j < k → ¬ p j := by
    intro n
    induction n with
    | zero => exact .inl fun k _ h => by omega
    | succ n ih =>
      rcases ih with ih | ⟨k, h1, h2, h3⟩
      · by_cases hn : 1 ≤ n ∧ p n
        · exact .inr ⟨n, hn.1, by omega, hn.2, ih⟩
        · refine .inl fun k h1 h2 => ?_
          by_cases e : k = n
          · subst e; exact fun hp => hn ⟨h1, hp⟩
          · exact ih k h1 (by omega)
      · exact .inr ⟨k, h1, by omega, h3⟩
  exact go 33
theorem dec_two (a : Int) (ha : U32 a) : ∃ (y : Ins) (z : Int), y.wf ∧ 0 ≤ y.op ∧ y.op ≤ 32 ∧ (∀ W, Calls Tryz.prog 8 #[.int .u32 a] W (Ret (.tuple #[y.val, .int .i64 z]) W)) ∧ ∀ W, Calls Tryz.prog 9 #[.int .u32 a] W (Ret (.tuple #[y.val, .int .i64 z]) W) := by
  obtain ⟨g, hg⟩ := gs_ex a ha
  have cond : ∀ k, ¬ (g.z k = 0 ∧ g.v k = a) → (condT k).tru (gEnv a g default) = false := by
    intro k h
    show ((g.z k == 0) && (g.v k == a)) = false
    cases h1 : (g.z k == 0) with
    | false => rfl
    | true =>
      cases h2 : (g.v k == a) with
      | false => rfl
      | true => exact absurd ⟨by simpa using h1, by simpa using h2⟩ h
  have go : ∀ (d : SV) (x : Value) (ax : List (SE × Bool)), (∀ β, d.den (gEnv a g default) β = some x) → (∀ p ∈ ax, p.1.tru (gEnv a g default) = p.2) → runR d ax = true → ∀ W, Calls Tryz.prog 9 #[.int .u32 a] W (Ret x W) := by
    intro d x ax hd hax hr
    unfold runR at hr
    have ok : (rCx ax).Ok (gEnv a g default) := by
      refine ⟨?_, (by intro i l h e; cases e), fun _ => rfl, insM, hax⟩
      exact bd_cons (show 0 ≤ a ∧ a ≤ 4294967295 from ⟨ha.1, Int.le_of_lt_add_one (by have := ha.2; show a < _; omega)⟩) (by intro i l h e; cases e)
    have sums : ∀ W, SumsOk (rCx ax) ((gEnv a g default).at W) := by
      intro W
      refine sums_of ?_
      intro p hp
      replace hp : p ∈ rSums := hp
      simp only [rSums, List.mem_cons, List.not_mem_nil, or_false] at hp
      rcases hp with rfl | rfl
      · refine pats_s fun p hp => ?_
        obtain ⟨j, h1, h2, rfl⟩ := pats1_mem hp
        exact pat_s (vals := [.int .u32 a, .int .i64 (.ofNat j)]) (x := (g.y j).val) (fun β => rfl) (fun β => rfl) (hg j h1 (by omega)).2.1
      · refine pats_s fun p hp => ?_
        obtain ⟨j, h1, h2, rfl⟩ := pats2_mem hp
        exact pat_s (vals := [(g.y j).val]) (x := .tuple #[.int .u32 (g.v j), .int .i64 (g.z j)]) (fun β => rfl) (fun β => rfl) (hg j h1 (by omega)).2.2.2.1
    obtain ⟨v, pc, hpc, hq, hc⟩ := chkB_calls hr ok sums insM (vals := [.int .u32 a]) rfl
    exact hc x fun β => by rw [eqV_ok hpc hq]; exact hd β
  rcases first (p := fun k => g.z k = 0 ∧ g.v k = a) with h | ⟨k, h1, h2, ⟨hz, hv⟩, h3⟩
  · have z64 : I64 0 := ⟨by decide, by decide⟩
    refine ⟨y0, 4, ⟨z64, z64, z64, z64, z64, z64, z64, z64⟩, (by decide), (by decide), ?_, go noD (.tuple #[y0.val, .int .i64 4]) (axs 32 1) (fun β => rfl) ?_ two_no⟩
    · rcases decode_one a ha with ⟨y, hy, o1, o2, _, e⟩ | h'
      · exfalso
        obtain ⟨v, z, _, e1, _, _, hh⟩ := enc_two y hy
        obtain ⟨rfl, rfl⟩ := enc_inj e e1
        obtain ⟨_, _, _, gs⟩ := hh rfl
        obtain ⟨k, hk⟩ := Int.eq_ofNat_of_zero_le (show 0 ≤ y.op by omega)
        have q := hg k (by omega) (by omega)
        have gI : Tryz.prog.inits.idxOf? 31 = none := by kernel_rfl
        rw [hk] at gs
        have := ret_unique gI (gs default) (q.2.1 default)
        rw [this] at e
        obtain ⟨e3, e4⟩ := enc_inj e q.2.2.1
        exact h k (by omega) (by omega) ⟨e4.symm, e3.symm⟩
      · exact h'
    · intro p hp
      obtain ⟨j, j1, j2, rfl⟩ := axs_mem hp
      exact cond j (h j j1 (by omega))
  · have q := hg k h1 h2
    have d := (q.2.2.2.2 hz).2
    rw [hv] at d
    have dI : Tryz.prog.inits.idxOf? 8 = none := by kernel_rfl
    have hop : 0 ≤ (g.y k).op ∧ (g.y k).op ≤ 32 := by
      rcases decode_one a ha with ⟨y, hy, o1, o2, e, _⟩ | h'
      · have := (tup2_inj (ret_unique dI (e default) (d default))).1
        have e2 : y.op = (g.y k).op := by
          have h3 : Value.agg #[.int .i64 y.op, .bool y.x, .bool y.s, .int .i64 y.rd, .int .i64 y.rn, .int .i64 y.rm, .int .i64 y.ra, .int .i64 y.a, .int .i64 y.b, .int .i64 y.c] = Value.agg #[.int .i64 (g.y k).op, .bool (g.y k).x, .bool (g.y k).s, .int .i64 (g.y k).rd, .int .i64 (g.y k).rn, .int .i64 (g.y k).rm, .int .i64 (g.y k).ra, .int .i64 (g.y k).a, .int .i64 (g.y k).b, .int .i64 (g.y k).c] := this
          simp at h3
          exact h3.1
        omega
      · exfalso
        have := Sym.int_inj (tup2_inj (ret_unique dI (h' default) (d default))).2
        omega
    refine ⟨g.y k, 0, q.1, hop.1, hop.2, d, go (okD k) (.tuple #[(g.y k).val, .int .i64 0]) (okA k) (fun β => rfl) ?_ (two_all k h1 h2)⟩
    intro p hp
    unfold okA at hp
    rcases List.mem_append.1 hp with hp | hp
    · obtain ⟨j, j1, j2, rfl⟩ := axs_mem hp
      exact cond j (h3 j j1 (by omega))
    · simp only [List.mem_cons, List.not_mem_nil, or_false] at hp
      rcases hp with rfl | rfl
      · show (g.z k == 0) = true
        rw [hz]; rfl
      · show (g.v k == a) = true
        rw [hv]; simp
def DIs (a : Int) (p : Ins × Int) : Prop := p.1.wf ∧ 0 ≤ p.1.op ∧ p.1.op ≤ 32 ∧ (∀ W, Calls Tryz.prog 8 #[.int .u32 a] W (Ret (.tuple #[p.1.val, .int .i64 p.2]) W)) ∧ ∀ W, Calls Tryz.prog 9 #[.int .u32 a] W (Ret (.tuple #[p.1.val, .int .i64 p.2]) W)
theorem dec_ex (a : Int) : ∃ p : Ins × Int, U32 a → DIs a p := by
  by_cases h : U32 a
  · obtain ⟨y, z, q⟩ := dec_two a h
    exact ⟨(y, z), fun _ => q⟩
  · exact ⟨(y0, 0), fun h' => absurd h' h⟩
noncomputable def dY (a : Int) : Ins := (Classical.choose (dec_ex a)).1
noncomputable def dZ (a : Int) : Int := (Classical.choose (dec_ex a)).2
theorem d_is (a : Int) (h : U32 a) : (dY a).wf ∧ 0 ≤ (dY a).op ∧ (dY a).op ≤ 32 ∧ (∀ W, Calls Tryz.prog 8 #[.int .u32 a] W (Ret (.tuple #[(dY a).val, .int .i64 (dZ a)]) W)) ∧ ∀ W, Calls Tryz.prog 9 #[.int .u32 a] W (Ret (.tuple #[(dY a).val, .int .i64 (dZ a)]) W) := Classical.choose_spec (dec_ex a) h
end Go.Proofs.YtopfaapcekiojaaGreat.Two
