/- PROVED: DecWords returns true for every word; the argument reads behind the call as it read before. No condition. -/
import Derived.Test.YtopfaapcekiojaaGreatDecI
import Derived.Test.YtopfaapcekiojaaGreatDecJ
import Derived.Handy
import Derived.ProofKit
import Derived.OpenShut
import Derived.Lib.SmallJoins
namespace Go.Proofs.YtopfaapcekiojaaGreat.lawDecWords
open Go.ChangeShapes Go.WideShapes Go.ChangeAt Go.RowKit Go.Sort Go.Joins Sym
set_option linter.unusedVariables false

/-- the guess of each class; its word and its error -/
structure Gs where
  y : Nat → Ins
  v : Nat → Int
  z : Nat → Int
def GsOk (w : Int) (g : Gs) : Prop := ∀ k, 1 ≤ k → k < 33 → (g.y k).wf ∧ (∀ W, Calls Tryz.prog 31 #[.int .u32 w, .int .i64 (.ofNat k)] W (Ret (g.y k).val W)) ∧ (∀ W, Calls Tryz.prog 23 #[(g.y k).val] W (Ret (.tuple #[.int .u32 (g.v k), .int .i64 (g.z k)]) W)) ∧
  (∀ W, Calls Tryz.prog 12 #[(g.y k).val] W (Ret (.tuple #[.int .u32 (g.v k), .int .i64 (g.z k)]) W)) ∧ (g.z k = 0 → DecIs (g.y k) (g.v k))
theorem one_ex (w : Int) (hw : U32 w) (k : Nat) : ∃ p : Ins × Int × Int, 1 ≤ k → k < 33 → (p.1).wf ∧ (∀ W, Calls Tryz.prog 31 #[.int .u32 w, .int .i64 (.ofNat k)] W (Ret p.1.val W)) ∧ (∀ W, Calls Tryz.prog 23 #[p.1.val] W (Ret (.tuple #[.int .u32 p.2.1, .int .i64 p.2.2]) W)) ∧
    (∀ W, Calls Tryz.prog 12 #[p.1.val] W (Ret (.tuple #[.int .u32 p.2.1, .int .i64 p.2.2]) W)) ∧ (p.2.2 = 0 → DecIs p.1 p.2.1) := by
  by_cases hk : 1 ≤ k ∧ k < 33
  · obtain ⟨y, hy, gy⟩ := ga_ok (ga_all k hk.1 hk.2) w hw
    obtain ⟨v, z, _, e1, e2, _, h⟩ := enc_two y hy
    exact ⟨(y, v, z), fun _ _ => ⟨hy, gy, e1, e2, fun z0 => (h z0).2.2.1⟩⟩
  · exact ⟨(y0, 0, 0), fun h1 h2 => absurd ⟨h1, h2⟩ hk⟩
theorem gs_ex (w : Int) (hw : U32 w) : ∃ g, GsOk w g :=
  ⟨⟨fun k => (Classical.choose (one_ex w hw k)).1, fun k => (Classical.choose (one_ex w hw k)).2.1, fun k => (Classical.choose (one_ex w hw k)).2.2⟩, fun k h1 h2 => Classical.choose_spec (one_ex w hw k) h1 h2⟩
def fldOf (y : Ins) : Int → Int
  | 0 => y.op | 1 => y.rd | 2 => y.rn | 3 => y.rm | 4 => y.ra | 5 => y.a | 6 => y.b | _ => y.c
def gF (g : Gs) : Nat → Int → Int → Int → Int → Int
  | 20, k, i, _, _ => fldOf (g.y k.toNat) i
  | 21, k, _, _, _ => g.v k.toNat
  | 22, k, _, _, _ => g.z k.toNat
  | _, _, _, _, _ => 0
def gP (g : Gs) : Nat → Int → Int → Int → Int → Bool
  | 20, k, _, _, _ => (g.y k.toNat).x
  | 21, k, _, _, _ => (g.y k.toNat).s
  | _, _, _, _, _ => false
def letW (a : Int) : Nat → Int
  | 8 => a | _ => 0
def gEnv (a : Int) (g : Gs) (w : World) : Env := ⟨letW a, fun _ => false, fun _ => .nilFunc, gF g, gP g, w.heap.size, w, fun _ => (none, 0), fun _ => ⟨#[]⟩⟩
def ap (f k : Nat) (i : Int) : SE := .app f (.lit (.ofNat k)) (.lit i) (.lit 0) (.lit 0)
def pp (f k : Nat) : SE := .papp f (.lit (.ofNat k)) (.lit 0) (.lit 0) (.lit 0)
def gCells (k : Nat) : List SC := [.int .i64 (ap 20 k 0), .bool (pp 20 k), .bool (pp 21 k), .int .i64 (ap 20 k 1), .int .i64 (ap 20 k 2), .int .i64 (ap 20 k 3), .int .i64 (ap 20 k 4), .int .i64 (ap 20 k 5), .int .i64 (ap 20 k 6), .int .i64 (ap 20 k 7)]
theorem gCells_den (a : Int) (g : Gs) (w : World) (k : Nat) (β : Lay) : (SP.agg (gCells k)).den (gEnv a g w) β = some (g.y k).val := rfl
def wS : SV := .p (.c (.int .u32 (.var 8)))
def condT (k : Nat) : SE := .bin .and (.bin .eq (ap 22 k 0) (.lit 0)) (.bin .eq (ap 21 k 0) (.var 8))
def pats1 : Nat → Nat → List (List SV × SV)
  | 0, _ => []
  | n + 1, k => ([wS, .p (.c (.int .i64 (.lit (.ofNat k))))], .p (.agg (gCells k))) :: pats1 n (k + 1)
def pats2 : Nat → Nat → List (List SV × SV)
  | 0, _ => []
  | n + 1, k => ([.p (.agg (gCells k))], .tup [.c (.int .u32 (ap 21 k 0)), .c (.int .i64 (ap 22 k 0))]) :: pats2 n (k + 1)
def axs : Nat → Nat → List (SE × Bool)
  | 0, _ => []
  | n + 1, k => (condT k, false) :: axs n (k + 1)
noncomputable def wSums (d : SV) : Sums := [(10, patS [] (.p (.c (.bool .tt)))), (8, patS [wS] d), (31, patsS (pats1 32 1)), (12, patsS (pats2 32 1))]
noncomputable def wCx (d : SV) (ax : List (SE × Bool)) : Ctx := { P := Tryz.prog, bd := [(8, 0, 4294967295)], fb := [], sums := wSums d, ax := ax }
noncomputable def runB (d : SV) (ax : List (SE × Bool)) : Bool := allTrue (runF (wCx d ax) 300 3 [wS] [] 0)
def okD (k : Nat) : SV := .tup [.agg (gCells k), .c (.int .i64 (.lit 0))]
def noD : SV := .tup [.agg zeroL, .c (.int .i64 (.lit 4))]
def okA (k : Nat) : List (SE × Bool) := axs (k - 1) 1 ++ [(.bin .eq (ap 22 k 0) (.lit 0), true), (.bin .eq (ap 21 k 0) (.var 8), true)]
noncomputable def oneB (k : Nat) : Bool := runB (okD k) (okA k)
theorem one_1 : oneB 1 = true := by kernel_rfl
theorem one_2 : oneB 2 = true := by kernel_rfl
theorem one_3 : oneB 3 = true := by kernel_rfl
theorem one_4 : oneB 4 = true := by kernel_rfl
theorem one_5 : oneB 5 = true := by kernel_rfl
theorem one_6 : oneB 6 = true := by kernel_rfl
theorem one_7 : oneB 7 = true := by kernel_rfl
theorem one_8 : oneB 8 = true := by kernel_rfl
theorem one_9 : oneB 9 = true := by kernel_rfl
theorem one_10 : oneB 10 = true := by kernel_rfl
theorem one_11 : oneB 11 = true := by kernel_rfl
theorem one_12 : oneB 12 = true := by kernel_rfl
theorem one_13 : oneB 13 = true := by kernel_rfl
theorem one_14 : oneB 14 = true := by kernel_rfl
theorem one_15 : oneB 15 = true := by kernel_rfl
theorem one_16 : oneB 16 = true := by kernel_rfl
theorem one_17 : oneB 17 = true := by kernel_rfl
theorem one_18 : oneB 18 = true := by kernel_rfl
theorem one_19 : oneB 19 = true := by kernel_rfl
theorem one_20 : oneB 20 = true := by kernel_rfl
theorem one_21 : oneB 21 = true := by kernel_rfl
theorem one_22 : oneB 22 = true := by kernel_rfl
theorem one_23 : oneB 23 = true := by kernel_rfl
theorem one_24 : oneB 24 = true := by kernel_rfl
theorem one_25 : oneB 25 = true := by kernel_rfl
theorem one_26 : oneB 26 = true := by kernel_rfl
theorem one_27 : oneB 27 = true := by kernel_rfl
theorem one_28 : oneB 28 = true := by kernel_rfl
theorem one_29 : oneB 29 = true := by kernel_rfl
theorem one_30 : oneB 30 = true := by kernel_rfl
theorem one_31 : oneB 31 = true := by kernel_rfl
theorem one_32 : oneB 32 = true := by kernel_rfl
theorem run_no : runB noD (axs 32 1) = true := by kernel_rfl
theorem one_all : ∀ k, 1 ≤ k → k < 33 → oneB k = true
  | 0, h, _ => by omega
  | 1, _, _ => one_1
  | 2, _, _ => one_2
  | 3, _, _ => one_3
  | 4, _, _ => one_4
  | 5, _, _ => one_5
  | 6, _, _ => one_6
  | 7, _, _ => one_7
  | 8, _, _ => one_8
  | 9, _, _ => one_9
  | 10, _, _ => one_10
  | 11, _, _ => one_11
  | 12, _, _ => one_12
  | 13, _, _ => one_13
  | 14, _, _ => one_14
  | 15, _, _ => one_15
  | 16, _, _ => one_16
  | 17, _, _ => one_17
  | 18, _, _ => one_18
  | 19, _, _ => one_19
  | 20, _, _ => one_20
  | 21, _, _ => one_21
  | 22, _, _ => one_22
  | 23, _, _ => one_23
  | 24, _, _ => one_24
  | 25, _, _ => one_25
  | 26, _, _ => one_26
  | 27, _, _ => one_27
  | 28, _, _ => one_28
  | 29, _, _ => one_29
  | 30, _, _ => one_30
  | 31, _, _ => one_31
  | 32, _, _ => one_32
  | k + 33, _, h => by omega
theorem axs_mem : ∀ {n k : Nat} {p : SE × Bool}, p ∈ axs n k → ∃ j, k ≤ j ∧ j < k + n ∧ p = (condT j, false)
  | 0, _, _, h => by cases h
  | n + 1, k, p, h => by
    rcases List.mem_cons.1 h with rfl | h
    · exact ⟨k, by omega, by omega, rfl⟩
    · obtain ⟨j, h1, h2, h3⟩ := axs_mem h
      exact ⟨j, by omega, by omega, h3⟩
theorem pats1_mem : ∀ {n k : Nat} {p : List SV × SV}, p ∈ pats1 n k → ∃ j, k ≤ j ∧ j < k + n ∧ p = ([wS, .p (.c (.int .i64 (.lit (.ofNat j))))], .p (.agg (gCells j)))
  | 0, _, _, h => by cases h
  | n + 1, k, p, h => by
    rcases List.mem_cons.1 h with rfl | h
    · exact ⟨k, by omega, by omega, rfl⟩
    · obtain ⟨j, h1, h2, h3⟩ := pats1_mem h
      exact ⟨j, by omega, by omega, h3⟩
theorem pats2_mem : ∀ {n k : Nat} {p : List SV × SV}, p ∈ pats2 n k → ∃ j, k ≤ j ∧ j < k + n ∧ p = ([.p (.agg (gCells j))], .tup [.c (.int .u32 (ap 21 j 0)), .c (.int .i64 (ap 22 j 0))])
  | 0, _, _, h => by cases h
  | n + 1, k, p, h => by
    rcases List.mem_cons.1 h with rfl | h
    · exact ⟨k, by omega, by omega, rfl⟩
    · obtain ⟨j, h1, h2, h3⟩ := pats2_mem h
      exact ⟨j, by omega, by omega, h3⟩
theorem first {p : Nat → Prop} : (∀ k, 1 ≤ k → k < 33 → ¬ p k) ∨ ∃ k, 1 ≤ k ∧ k < 33 ∧ p k ∧ ∀ j, 1 ≤ j → j < k → ¬ p j := by
  have go : ∀ n, (∀ k, 1 ≤ k → k < n → ¬ p k) ∨ ∃ k, 1 ≤ k ∧ k < n ∧ p k ∧ ∀ j, 1 ≤ j → j < k → ¬ p j := by
    intro n
    induction n with
    | zero => exact .inl fun k _ h => by omega
    | succ n ih =>
      rcases ih with ih | ⟨k, h1, h2, h3⟩
      · by_cases hn : 1 ≤ n ∧ p n
        · exact .inr ⟨n, hn.1, by omega, hn.2, ih⟩
        · refine .inl fun k h1 h2 => ?_
          by_cases e : k = n
          · subst e; exact fun hp => hn ⟨h1, hp⟩
          · exact ih k h1 (by omega)
      · exact .inr ⟨k, h1, by omega, h3⟩
  exact go 33
theorem walk (a : Int) (w : World) (ha : U32 a) : Calls Tryz.prog 3 #[.int .u32 a] w (Ret (.bool true) w) := by
  obtain ⟨g, hg⟩ := gs_ex a ha
  have cond : ∀ k, ¬ (g.z k = 0 ∧ g.v k = a) → (condT k).tru (gEnv a g w) = false := by
    intro k h
    show ((g.z k == 0) && (g.v k == a)) = false
    cases h1 : (g.z k == 0) with
    | false => rfl
    | true =>
      cases h2 : (g.v k == a) with
      | false => rfl
      | true => exact absurd ⟨by simpa using h1, by simpa using h2⟩ h
  have go : ∀ (d : SV) (x : Value) (ax : List (SE × Bool)), (∀ β, d.den (gEnv a g w) β = some x) → (∀ W, Calls Tryz.prog 8 #[.int .u32 a] W (Ret x W)) → (∀ p ∈ ax, p.1.tru (gEnv a g w) = p.2) → runB d ax = true → Calls Tryz.prog 3 #[.int .u32 a] w (Ret (.bool true) w) := by
    intro d x ax hd hx hax hr
    unfold runB at hr
    have ok : (wCx d ax).Ok (gEnv a g w) := by
      refine ⟨?_, (by intro i l h e; cases e), fun _ => rfl, insM, hax⟩
      exact bd_cons (show 0 ≤ a ∧ a ≤ 4294967295 from ⟨ha.1, Int.le_of_lt_add_one (by have := ha.2; show a < _; omega)⟩) (by intro i l h e; cases e)
    refine runF_true (cx := wCx d ax) ok (sums_of ?_) insM rfl rfl (args := [wS]) (vals := [.int .u32 a]) rfl hr
    intro p hp
    replace hp : p ∈ wSums d := hp
    simp only [wSums, List.mem_cons, List.not_mem_nil, or_false] at hp
    rcases hp with rfl | rfl | rfl | rfl
    · exact pat_s (vals := []) (x := .bool true) (fun β => rfl) (fun β => rfl) begun_any
    · exact pat_s (vals := [.int .u32 a]) (fun β => rfl) hd hx
    · refine pats_s fun p hp => ?_
      obtain ⟨j, h1, h2, rfl⟩ := pats1_mem hp
      exact pat_s (vals := [.int .u32 a, .int .i64 (.ofNat j)]) (x := (g.y j).val) (fun β => rfl) (fun β => rfl) (hg j h1 (by omega)).2.1
    · refine pats_s fun p hp => ?_
      obtain ⟨j, h1, h2, rfl⟩ := pats2_mem hp
      exact pat_s (vals := [(g.y j).val]) (x := .tuple #[.int .u32 (g.v j), .int .i64 (g.z j)]) (fun β => rfl) (fun β => rfl) (hg j h1 (by omega)).2.2.2.1
  rcases first (p := fun k => g.z k = 0 ∧ g.v k = a) with h | ⟨k, h1, h2, ⟨hz, hv⟩, h3⟩
  · refine go noD (.tuple #[y0.val, .int .i64 4]) (axs 32 1) (fun β => rfl) ?_ ?_ run_no
    · rcases decode_one a ha with ⟨y, hy, o1, o2, _, e⟩ | h'
      · exfalso
        obtain ⟨v, z, _, e1, _, _, hh⟩ := enc_two y hy
        obtain ⟨rfl, rfl⟩ := enc_inj e e1
        obtain ⟨_, _, _, gs⟩ := hh rfl
        obtain ⟨k, hk⟩ := Int.eq_ofNat_of_zero_le (show 0 ≤ y.op by omega)
        have q := hg k (by omega) (by omega)
        have gI : Tryz.prog.inits.idxOf? 31 = none := by kernel_rfl
        rw [hk] at gs
        have := ret_unique gI (gs default) (q.2.1 default)
        rw [this] at e
        obtain ⟨e3, e4⟩ := enc_inj e q.2.2.1
        exact h k (by omega) (by omega) ⟨e4.symm, e3.symm⟩
      · exact h'
    · intro p hp
      obtain ⟨j, j1, j2, rfl⟩ := axs_mem hp
      exact cond j (h j j1 (by omega))
  · have q := hg k h1 h2
    have d := (q.2.2.2.2 hz).2
    rw [hv] at d
    refine go (okD k) (.tuple #[(g.y k).val, .int .i64 0]) (okA k) (fun β => rfl) d ?_ (one_all k h1 h2)
    intro p hp
    unfold okA at hp
    rcases List.mem_append.1 hp with hp | hp
    · obtain ⟨j, j1, j2, rfl⟩ := axs_mem hp
      exact cond j (h3 j j1 (by omega))
    · simp only [List.mem_cons, List.not_mem_nil, or_false] at hp
      rcases hp with rfl | rfl
      · show (g.z k == 0) = true
        rw [hz]; rfl
      · show (g.v k == a) = true
        rw [hv]; simp
theorem own : ownKnob Tryz.prog.godebug = none := by kernel_rfl
theorem laidOut : laidOutB Tryz.prog = true := by kernel_rfl
set_option maxRecDepth 100000 in
theorem lifted (os : Os) (started : os.Started) (H : Type) (enc : TypeId × Value → H) :
    ReturnsInHanded {} Tryz.checked os 3 .any (Rows.decWordsSpec.pre6 enc Tryz.prog Tryz.f3 Rows.decWordsRow.domain false) (Rows.decWordsSpec.post enc Tryz.prog Tryz.f3 false true false false) := by
  refine returnsInHanded_of_change (C := Tryz.checked) own started (by kernel_rfl) Tryz.func3
    (ChangeSpec.witness6 (enc := enc) (C := Tryz.checked) false ⟨#[], #[.int .u32 0], []⟩ 8 (by kernel_rfl) (by kernel_rfl) (by kernel_rfl) (by kernel_rfl)) ?_
  intro W base args ds gs before hval0 hW hcnd _
  have hval : ∀ (j : Nat) t v, Tryz.f3.params[j]? = some t → args[j]? = some v → Value.okWide Tryz.prog W .any base t v := hval0
  have hW' := hW
  obtain ⟨p, q, hA0, hV, rfl, hfz, hnd⟩ := hW
  have hA : DataW.TrodAll enc Tryz.prog W 0 (fun _ => true) true Tryz.f3.params.toList args.toList ds p := hA0
  rw [Tryz.params3] at hA hval
  obtain ⟨v0, vs0, d0, ds0, p0, q0, hargs, rfl, rfl, h0, r0⟩ := trodAll_cons hA
  obtain ⟨rfl, rfl, rfl⟩ := trodAll_nil r0
  obtain rfl : args = #[v0] := by cases args; simp_all
  obtain ⟨rfl, rfl⟩ := trodVars_none hV
  have k0 := h0
  have lt0 : ∀ x ∈ p0, x.block < W.heap.size := by obtain ⟨m, hm⟩ := k0; exact DataW.trod_lt m _ _ _ hm
  obtain ⟨a0, rfl, _, _, w0⟩ := open_int Tryz.underlying22 (hval 0 22 v0 rfl rfl) h0
  clear hA0 hval0
  refine (walk a0 W (u32_wf w0)).mono fun e W' ⟨he, bel⟩ => ?_
  subst he
  exact ⟨_, rfl, _, _, _, [], _, [], hW', trodAll_mk1 (shut_bool Tryz.underlying4 _), (trodAll_cons_mk (Below.trod laidOut (by kernel_rfl) (of_decide_eq_true (by kernel_rfl)) k0 bel lt0) trodAll_mk0), rfl, bel.frame _, fun h => by cases h⟩

theorem proved : Rows.DecWordsSaid :=
  OpenClaim.holds_of_wide 3 Tryz.f3 rfl rfl rfl rfl rfl rfl rfl ⟨rfl, rfl, rfl, rfl, rfl⟩ rfl rfl rfl rfl rfl (by kernel_rfl) Tryz.func3 (by kernel_rfl)
    (of_decide_eq_true (by kernel_rfl)) (by unfold Func.isWrapper; first | (rw [if_pos (by decide +kernel)]; kernel_rfl) | (rw [if_neg (by decide +kernel)]; exact ⟨rfl, rfl⟩))
    (fun os started H enc _ => lifted os started H enc)

#print axioms proved
end Go.Proofs.YtopfaapcekiojaaGreat.lawDecWords
