/- The executor's runs of regions and of code are right; a function's contract out of its run. -/
import Derived.Test.YtopfaapcekiojaaSymH
namespace Go.Proofs.Ytopfaapcekiojaa.Sym
open Go Go.RowKit Go.Proofs.Ytopfaapcekiojaa

section
variable {cx : Ctx} {ρ : Env} {B : Nat} {w0 w : World} {D0 : List Nat} {ys : List (Nat × Rec)} {L : Lst} {β : Lay} {s : St} {a : Act} {o : Oper}

/-- an own function is called -/
theorem run_call {g : FuncId} {fn : Func} {f : Operand} {args : Array Operand} {argTypes : Array TypeId} {ev : Operand → Value} {P : Program} (ho : o.op = .call { callee := .value f, args := args, argTypes := argTypes }) {A1 A2 : Array Value}
    (hf : ev f = .func (.func g) A1 A2) (hg : P.funcs[g]? = some fn) (hn : (fn.name == "runtime.NumGoroutine") = false) {c : Code} (hb : fn.body = some c) (w : World) :
    (execOp ev o).run P w = .ok (.enter g (A1 ++ args.map ev ++ A2)) w := by
  have hn' : fn.name ≠ "runtime.NumGoroutine" := by simpa using hn
  simp [execOp, ho, resolve, Deferred.ofValue, hf, invoke, callFunc, hg, hn', hb]
theorem wpIn_of_run {inr : Bool} {F : Fence} {n : Nat} (hF : FOk inr F) {P : Program} {K : Act → World → Prop} {Q : Exit → Act → World → Prop} (hd : ∀ c, o.op ≠ .defer c) {r : Result Next} (hr : (execOp a.eval o).run P w = r) (h : o.uponIn F n P a K Q r) : o.wpIn F n P a w K Q := by
  refine ⟨fun f _ => hF.fn f, ?_⟩
  rw [Oper.semAt_eq _ _ _ hd, hr]
  exact h
theorem fn_ok {g : FuncId} {x y : List (Nat × Nat)} {u : Value} (h : (SC.fn g x y).den ρ β = some u) : ∃ p q, ptrs β x = some p ∧ ptrs β y = some q ∧ u = .func (.func g) p.toArray q.toArray := by
  simp only [SC.den] at h
  split at h
  · rename_i p q hp hq; exact ⟨p, q, hp, hq, (Option.some.inj h).symm⟩
  · cases h
theorem keepH_lk (n0 : Nat) (seen : List Nat) (b : Nat) (k : Blk) : ∀ H : List (Nat × Blk), lk (keepH n0 seen H) b = some k → lk H b = some k
  | [], h => h
  | (c, k') :: r, h => by
    unfold keepH at h
    rw [lk_cons]
    split at h
    · rw [lk_cons] at h
      split at h
      · rename_i e; rw [if_pos e]; exact h
      · rename_i e; rw [if_neg e]; exact keepH_lk n0 seen b k r h
    · rename_i hk
      have ih := keepH_lk n0 seen b k r h
      by_cases e : b = c
      · exfalso
        subst e
        have : ∀ H : List (Nat × Blk), lk (keepH n0 seen H) b = none := by
          intro H
          induction H with
          | nil => rfl
          | cons x r ih =>
            obtain ⟨d, kd⟩ := x
            unfold keepH
            split
            · rename_i hd
              rw [lk_cons, if_neg (by rintro rfl; rw [hk] at hd; cases hd)]
              exact ih
            · exact ih
        rw [this] at h
        cases h
      · rw [if_neg e]; exact ih
theorem WR.less {H H' : List (Nat × Blk)} {n : Nat} (h : WR cx.P ρ B w0 L β H n w) (hs : ∀ b k, lk H' b = some k → lk H b = some k) : WR cx.P ρ B w0 L β H' n w :=
  ⟨h.below, h.base, h.fresh, fun b c k k' x y hb hc => h.inj b c k k' x y (hs b k hb) (hs c k' hc), fun b k hb => h.blk b k (hs b k hb), h.ds, h.ls⟩
theorem FOk.callsIn {inr : Bool} {F : Fence} (h : FOk inr F) {m n : Nat} {P : Program} {f : FuncId} {args : Array Value} {w : World} {R : Ending → World → Prop} (hc : CallsIn Fence.wide m P f args w R) : CallsIn F n P f args w R := h.calls (callsIn_wide.1 hc)
/-- yield is called -/
theorem run_yielded {l : Nat} {f : Operand} {args : Array Operand} {argTypes : Array TypeId} {ev : Operand → Value} {P : Program} (ho : o.op = .call { callee := .value f, args := args, argTypes := argTypes })
    (hf : ev f = .func (.yield l) #[] #[]) {lo : Loop} (hl : w.heap[l]? = some (.loop lo)) (hs : args.size = lo.params.size) :
    (execOp ev o).run P w = .ok (.round l lo.fn ((lo.params.zip (args.map ev)).foldl (fun tmps (t, a) => tmps.setIfInBounds t a) lo.tmps) lo.assign lo.body) w := by
  have := run_yield (P := P) (args := args.map ev) hl (by simpa using hs)
  simp [execOp, ho, resolve, Deferred.ofValue, hf, invoke, this]
theorem putPs_ok {nt : Nat} : ∀ {ps : List Nat} {args : List SV} {vs : List Value} {F F' : List (Nat × SV)} {tmps : Array Value}, putPs nt F ps args = some F' → denA ρ β args = some vs → tmps.size = nt → (∀ t v, lk F t = some v → ∃ x, v.den ρ β = some x ∧ tmps[t]? = some x) →
    ps.length = vs.length ∧ ((ps.zip vs).foldl (fun (tmps : Array Value) (p : Nat × Value) => tmps.setIfInBounds p.1 p.2) tmps).size = nt ∧ ∀ t v, lk F' t = some v → ∃ x, v.den ρ β = some x ∧ ((ps.zip vs).foldl (fun (tmps : Array Value) (p : Nat × Value) => tmps.setIfInBounds p.1 p.2) tmps)[t]? = some x
  | [], [], vs, F, F', tmps, h, ha, hs, hf => by
    cases h; cases ha; exact ⟨rfl, hs, hf⟩
  | [], _ :: _, vs, F, F', tmps, h, ha, hs, hf => by cases h
  | _ :: _, [], vs, F, F', tmps, h, ha, hs, hf => by cases h
  | p :: ps, v :: r, vs, F, F', tmps, h, ha, hs, hf => by
    unfold putPs at h
    split at h
    · rename_i hp
      have hp : p < nt := Nat.le_of_ble_eq_true hp
      unfold denA at ha
      cases hx : v.den ρ β with
      | none => simp [hx] at ha
      | some x =>
        cases hr : denA ρ β r with
        | none => simp [hx, hr] at ha
        | some l =>
          simp only [hx, hr] at ha
          cases ha
          obtain ⟨h1, h2, h3⟩ := putPs_ok (tmps := tmps.setIfInBounds p x) h hr (by simpa using hs) (by
            intro t u hu
            rw [lk_cons] at hu
            by_cases e : t = p
            · rw [if_pos e] at hu
              cases hu
              subst e
              exact ⟨x, hx, by simp [hs, hp]⟩
            · rw [if_neg e] at hu
              obtain ⟨y, hy, ht⟩ := hf t u hu
              exact ⟨y, hy, by rw [Array.getElem?_setIfInBounds_ne (fun q => e q.symm)]; exact ht⟩)
          exact ⟨by simpa using h1, h2, h3⟩
    · cases h
theorem zip_foldl (ps : Array Tmp) (vs : Array Value) (tmps : Array Value) : (ps.zip vs).foldl (fun tmps (t, a) => tmps.setIfInBounds t a) tmps = (ps.toList.zip vs.toList).foldl (fun (tmps : Array Value) (p : Nat × Value) => tmps.setIfInBounds p.1 p.2) tmps := by
  rw [← Array.foldl_toList, Array.toList_zip]
theorem yieldS_ok {go : Bool → Code → St → Tree} (hgo : ∀ inr, Goes cx ρ ys inr (go inr)) {inr : Bool} {F : Fence} (hF : FOk inr F) {n : Nat} {Q : Exit → Act → World → Prop} {k : St → Tree} {K : Act → World → Prop} (hR : RelS cx ρ ρ.B ρ.w0 D0 ys L s β a w)
    (hk : ∀ s' β' L' a' w', β.le β' → RelS cx ρ ρ.B ρ.w0 D0 ys L' s' β' a' w' → (k s').Holds ρ (Post cx ρ ρ.B ρ.w0 D0 ys β Q) → K a' w')
    {f : Operand} {args : Array Operand} {argTypes : Array TypeId} (ho : o.op = .call { callee := .value f, args := args, argTypes := argTypes }) {b : Nat} (hb : (SC.yld b).den ρ β = some (a.eval f)) {l : List SV} (hl : argsS s args.toList = some l)
    (h : (yieldS ys go s o.dst b l k).Holds ρ (Post cx ρ ρ.B ρ.w0 D0 ys β Q)) : o.wpIn F n cx.P a w K Q := by
  unfold yieldS at h
  split at h
  · rename_i r hr
    split at h
    · rename_i Fr hFr
      obtain ⟨ad, c, lo, st, hβ, hlo, hst, hli⟩ := hR.loops.each b r hr
      have hf : a.eval f = .func (.yield ad) #[] #[] := by
        simp only [SC.den, hβ, Option.map_some] at hb
        exact (Option.some.inj hb).symm
      obtain ⟨_, hheap⟩ := hR.wr.ls _ hlo
      have hargs := argsS_ok hR hl
      obtain ⟨hlen, hsz, hfr⟩ := putPs_ok (tmps := lo.tmps) hFr hargs hli.size hli.frame
      have hsize : args.size = lo.params.size := by
        have e : lo.params.size = lo.params.toList.length := by simp
        rw [e, hli.ps, hlen]
        simp
      have hrun := run_yielded (P := cx.P) (w := w) ho hf hheap hsize
      rw [zip_foldl, hli.ps, hli.assign, hli.body] at hrun
      simp only [Array.toList_map] at hrun
      refine wpIn_of_run hF (by intro c hc; rw [ho] at hc; cases hc) hrun ?_
      refine ⟨fun hdep => (by rw [hF.depth] at hdep; cases hdep), ?_⟩
      refine roundIn_of_wpIn (hF.fn _) ?_
      refine hgo true (F.inRound ad) (n - 1) (hF.round ad) L.ds L r.assign _ β _ w _ (⟨hfr, hsz, hR.wr, hR.pc, hR.loops, ⟨⟨[], rfl, List.nodup_nil, fun D hD => by cases hD⟩, fun D hD => hD⟩⟩ : RelS cx ρ ρ.B ρ.w0 L.ds ys L { F := Fr, H := s.H, n := s.n, pc := s.pc, nt := r.nt, lp := s.lp } β { tmps := _, defers := [] } w) ?_
      refine Tree.holds_mono ?_ _ (Tree.holds_bind _ h)
      intro x s1 hp β1 L1 a1 w1 hle1 hR1
      cases x with
      | exit id => exact hp.elim
      | ret => exact hp.elim
      | normal =>
        unfold bodyS at hp
        simp only [] at hp
        split at hp
        · rename_i hready
          obtain ⟨ad1, c1, lo1, st1, hβ1, hlo1, hst1, hli1⟩ := hR1.loops.each b r hr
          rw [hle1 _ _ hβ] at hβ1
          cases hβ1
          rw [hready] at hst1
          cases hst1
          obtain ⟨_, hheap1⟩ := hR1.wr.ls _ hlo1
          have hbusy : LoopIs ρ β1 r .busy { lo1 with state := .busy } := ⟨hli1.ps, hli1.assign, hli1.body, hli1.size, hli1.frame, rfl, hli1.pend⟩
          refine ⟨_, run_beginRound hheap1 hli1.state, ?_⟩
          refine hgo true (F.inRound ad) (n - 1) (hF.round ad) L.ds _ r.body _ β1 a1 _ _ (⟨hR1.frame, hR1.size, hR1.wr.setLoop hlo1, hR1.pc, hR1.loops.set hr (hle1 _ _ hβ) hbusy, ⟨hR1.marks.own, hR1.marks.old⟩⟩ : RelS cx ρ ρ.B ρ.w0 L.ds ys (L1.set ad { lo1 with state := .busy }) { s1 with lp := setLp s1.lp b .busy } β1 a1 _) ?_
          refine Tree.holds_mono ?_ _ (Tree.holds_bind _ hp)
          intro x2 s2 hp2 β2 L2 a2 w2 hle2 hR2
          obtain ⟨ad2, c2, lo2, st2, hβ2, hlo2, hst2, hli2⟩ := hR2.loops.each b r hr
          rw [hle2 _ _ (hle1 _ _ hβ)] at hβ2
          cases hβ2
          obtain ⟨_, hheap2⟩ := hR2.wr.ls _ hlo2
          have fin : ∀ (jump : Option Code) (v : Bool), jump.isNone = v → (goesOn x2).tru ρ = v → (LS.after x2).pend = jump → (LS.after x2).state = (if jump.isNone then .ready else .done) →
              ∃ u w', (Instr.endRound ad jump).run cx.P w2 = .ok u w' ∧ K (a.put o.dst u) w' := by
            intro jump v hv hg hpd hstt
            refine ⟨_, _, run_endRound jump hheap2, ?_⟩
            unfold endS at hp2
            split at hp2
            · rename_i s' hs'
              have hli3 : LoopIs ρ β2 r (LS.after x2) { lo2 with state := if jump.isNone then .ready else .done, pending := jump } := ⟨hli2.ps, hli2.assign, hli2.body, hli2.size, hli2.frame, hstt.symm, hpd.symm⟩
              have hle := Lay.le_trans hle1 hle2
              refine hk s' β2 _ _ _ hle (putS_gen (s := { s with pc := s2.pc, lp := setLp s2.lp b (LS.after x2) }) (D0 := D0) (ys := ys) hR.frame hR.size hR2.pc hle ?_ (hR2.wr.setLoop hlo2) (hR2.loops.set hr (hle _ _ hβ) hli3) ⟨?_, fun D hD => hR2.marks.old D (hR.marks.old D hD)⟩ hs') hp2
              · show some (Value.bool ((goesOn x2).tru ρ)) = _
                rw [hg, hv]
              · obtain ⟨ds, h1, h2, h3⟩ := hR.marks.own
                exact ⟨ds, h1, h2, fun D hD => ⟨hR2.marks.old D (h3 D hD).1, (h3 D hD).2⟩⟩
            · exact hp2.elim
          cases x2 with
          | normal => exact fin none true rfl rfl rfl rfl
          | ret => exact fin (some .ret) false rfl rfl rfl rfl
          | exit id => exact fin (some (.exit id)) false rfl rfl rfl rfl
        · exact hp.elim
    · exact h.elim
  · exact h.elim
theorem doneS_ok (ok : cx.Ok ρ) {inr : Bool} {F : Fence} (hF : FOk inr F) {n : Nat} {Q : Exit → Act → World → Prop} {k : St → Tree} {K : Act → World → Prop} (hR : RelS cx ρ ρ.B ρ.w0 D0 ys L s β a w)
    (hk : ∀ s' β' L' a' w', β.le β' → RelS cx ρ ρ.B ρ.w0 D0 ys L' s' β' a' w' → (k s').Holds ρ (Post cx ρ ρ.B ρ.w0 D0 ys β Q) → K a' w')
    (h : (doneS cx o k s).Holds ρ (Post cx ρ ρ.B ρ.w0 D0 ys β Q)) : o.wpIn F n cx.P a w K Q := by
  unfold doneS at h
  split at h
  · rename_i v H m hop
    split at h
    · rename_i s' hs'
      obtain ⟨β', w', x, hle, hx, hW, hr, _⟩ := opS_ok ok hR.pc hR.wr (fun y _ => hR.ev y) hop
      have hR' := putS_ok hR hle hx hW hs'
      rcases hr with hr | ⟨hr, rfl⟩
      · exact wpIn_of_run hF (not_defer hop) hr (hk s' β' L _ w' hle hR' h)
      · exact wpIn_of_run hF (not_defer hop) hr (hk s' β' L _ w' hle hR' h)
    · exact h.elim
  · exact h.elim
theorem with_pc' (hR : RelS cx ρ B w0 D0 ys L s β a w) {pc : PC} (h : PcOk ρ pc) : RelS cx ρ B w0 D0 ys L (s.setPc pc) β a w := by
  rw [setPc_eq]
  exact ⟨hR.frame, hR.size, hR.wr, h, hR.loops, hR.marks⟩
theorem chainS_ok (ok : cx.Ok ρ) {inr : Bool} {F : Fence} (hF : FOk inr F) {n : Nat} {Q : Exit → Act → World → Prop} {k : St → Tree} {K : Act → World → Prop} {i : SE}
    (hk : ∀ s' β' L' a' w', β.le β' → RelS cx ρ ρ.B ρ.w0 D0 ys L' s' β' a' w' → (k s').Holds ρ (Post cx ρ ρ.B ρ.w0 D0 ys β Q) → K a' w') : ∀ (m : Nat) (j : Int) {s : St}, RelS cx ρ ρ.B ρ.w0 D0 ys L s β a w → j ≤ i.int ρ → i.int ρ ≤ j + m →
    (chainS cx o k i m j s).Holds ρ (Post cx ρ ρ.B ρ.w0 D0 ys β Q) → o.wpIn F n cx.P a w K Q
  | 0, j, s, hR, h1, h2, h => by
    have e : i.int ρ = j := by omega
    have ht : (SE.bin .eq i (.lit j)).tru ρ = true := by show (i.int ρ == j) = true; simp [e]
    exact doneS_ok ok hF (with_pc' hR (isN_ok hR.pc ht)) hk h
  | m + 1, j, s, hR, h1, h2, h => by
    unfold chainS at h
    obtain ⟨k1, k2⟩ := branch2_ok (fun ht => isN_ok hR.pc ht) (fun ht => isN_ok hR.pc ht) h
    cases ht : (SE.bin .eq i (.lit j)).tru ρ
    · have hne : (i.int ρ == j) = false := ht
      have hne : i.int ρ ≠ j := by simpa using hne
      exact chainS_ok ok hF hk m (j + 1) (with_pc' hR (isN_ok hR.pc ht)) (by omega) (by omega) (k2 ht)
    · exact doneS_ok ok hF (with_pc' hR (isN_ok hR.pc ht)) hk (k1 ht)
theorem splitS_ok (ok : cx.Ok ρ) {inr : Bool} {F : Fence} (hF : FOk inr F) {n : Nat} {Q : Exit → Act → World → Prop} {k : St → Tree} {K : Act → World → Prop} (hR : RelS cx ρ ρ.B ρ.w0 D0 ys L s β a w)
    (hk : ∀ s' β' L' a' w', β.le β' → RelS cx ρ ρ.B ρ.w0 D0 ys L' s' β' a' w' → (k s').Holds ρ (Post cx ρ ρ.B ρ.w0 D0 ys β Q) → K a' w')
    (h : (splitS cx o k s).Holds ρ (Post cx ρ ρ.B ρ.w0 D0 ys β Q)) : o.wpIn F n cx.P a w K Q := by
  unfold splitS at h
  split at h
  · split at h
    · rename_i lo hi hr
      obtain ⟨h1, h2⟩ := bnd_ok hR.pc hr
      split at h
      · rename_i m hm
        split at h
        · have hm : hi - lo = (m : Int) := hm
          exact chainS_ok ok hF hk m lo hR h1 (by omega) h
        · exact h.elim
      · exact h.elim
    · exact h.elim
  · exact h.elim
/-! ### ends brought together -/
section
variable {c : SE}
theorem mergeC_ok {x y z : SC} (h : mergeC c x y = some z) {t : Bool} (ht : c.tru ρ = t) {u : Value} (hu : (if t then x else y).den ρ β = some u) : z.den ρ β = some u := by
  unfold mergeC at h
  split at h
  · rename_i hs
    cases h
    have := SC.same_eq hs
    subst this
    cases t <;> exact hu
  · split at h
    · rename_i k a k' b _
      split at h
      · rename_i hk
        have := kSame_eq hk
        subst this
        cases h
        show some (Value.int k ((mkIte c a b).int ρ)) = some u
        rw [mkIte_ok, ht]
        cases t <;> exact hu
      · cases h
    · rename_i a b _
      cases h
      show some (Value.bool ((mkBite c a b).tru ρ)) = some u
      rw [mkBite_ok, ht]
      cases t <;> exact hu
    · cases h
theorem mergeL_ok {t : Bool} (ht : c.tru ρ = t) : ∀ {x y z : List SC}, mergeL c x y = some z → ∀ {u : List Value}, denL ρ β (if t then x else y) = some u → denL ρ β z = some u
  | [], [], z, h, u, hu => by cases h; cases t <;> exact hu
  | x :: r, y :: s, z, h, u, hu => by
    unfold mergeL at h
    split at h
    · rename_i z' l hz hl
      cases h
      have key : ∀ {x' : SC} {r' : List SC}, (if t then x :: r else y :: s) = x' :: r' → (if t then x else y) = x' → (if t then r else s) = r' → denL ρ β (z' :: l) = some u := by
        intro x' r' e1 e2 e3
        rw [e1] at hu
        unfold denL at hu ⊢
        cases hx : x'.den ρ β with
        | none => simp [hx] at hu
        | some v =>
          cases hr : denL ρ β r' with
          | none => simp [hx, hr] at hu
          | some l' =>
            simp only [hx, hr] at hu
            rw [mergeC_ok hz ht (by rw [e2]; exact hx), mergeL_ok ht hl (by rw [e3]; exact hr)]
            exact hu
      cases t
      · exact key rfl rfl rfl
      · exact key rfl rfl rfl
    · cases h
  | [], _ :: _, _, h, _, _ => by cases h
  | _ :: _, [], _, h, _, _ => by cases h
theorem mergeP_ok {x y z : SP} (h : mergeP c x y = some z) {t : Bool} (ht : c.tru ρ = t) {u : Value} (hu : (if t then x else y).den ρ β = some u) : z.den ρ β = some u := by
  unfold mergeP at h
  split at h
  · rename_i a b
    split at h
    · rename_i z' hz; cases h; exact mergeC_ok hz ht (by cases t <;> exact hu)
    · cases h
  · rename_i l m
    split at h
    · rename_i z' hz
      cases h
      have hu : (denL ρ β (if t then l else m)).map (fun x => Value.agg x.toArray) = some u := by cases t <;> exact hu
      cases hd : denL ρ β (if t then l else m) with
      | none => rw [hd] at hu; cases hu
      | some us => rw [hd] at hu; show (denL ρ β z').map _ = _; rw [mergeL_ok ht hz hd]; exact hu
    · cases h
  · cases h
theorem mergePs_ok {t : Bool} (ht : c.tru ρ = t) : ∀ {x y z : List SP}, mergePs c x y = some z → ∀ {u : List Value}, denP ρ β (if t then x else y) = some u → denP ρ β z = some u
  | [], [], z, h, u, hu => by cases h; cases t <;> exact hu
  | x :: r, y :: s, z, h, u, hu => by
    unfold mergePs at h
    split at h
    · rename_i z' l hz hl
      cases h
      have key : ∀ {x' : SP} {r' : List SP}, (if t then x :: r else y :: s) = x' :: r' → (if t then x else y) = x' → (if t then r else s) = r' → denP ρ β (z' :: l) = some u := by
        intro x' r' e1 e2 e3
        rw [e1] at hu
        unfold denP at hu ⊢
        cases hx : x'.den ρ β with
        | none => simp [hx] at hu
        | some v =>
          cases hr : denP ρ β r' with
          | none => simp [hx, hr] at hu
          | some l' =>
            simp only [hx, hr] at hu
            rw [mergeP_ok hz ht (by rw [e2]; exact hx), mergePs_ok ht hl (by rw [e3]; exact hr)]
            exact hu
      cases t
      · exact key rfl rfl rfl
      · exact key rfl rfl rfl
    · cases h
  | [], _ :: _, _, h, _, _ => by cases h
  | _ :: _, [], _, h, _, _ => by cases h
theorem mergeV_ok {x y z : SV} (h : mergeV c x y = some z) {t : Bool} (ht : c.tru ρ = t) {u : Value} (hu : (if t then x else y).den ρ β = some u) : z.den ρ β = some u := by
  unfold mergeV at h
  split at h
  · rename_i a b
    split at h
    · rename_i z' hz; cases h; exact mergeP_ok hz ht (by cases t <;> exact hu)
    · cases h
  · rename_i l m
    split at h
    · rename_i z' hz
      cases h
      have hu : (denP ρ β (if t then l else m)).map (fun x => Value.tuple x.toArray) = some u := by cases t <;> exact hu
      cases hd : denP ρ β (if t then l else m) with
      | none => rw [hd] at hu; cases hu
      | some us => rw [hd] at hu; show (denP ρ β z').map _ = _; rw [mergePs_ok ht hz hd]; exact hu
    · cases h
  · cases h
/-- what holds of the one blocks holds of the others -/
def HLe (ρ : Env) (H H' : List (Nat × Blk)) : Prop := ∀ b k', lk H' b = some k' → ∃ k, lk H b = some k ∧ k'.ty = k.ty ∧ k'.row = k.row ∧ ∀ β cs, denL ρ β k.cells = some cs → denL ρ β k'.cells = some cs
theorem HLe.refl (H : List (Nat × Blk)) : HLe ρ H H := fun _ k h => ⟨k, h, rfl, rfl, fun _ _ h => h⟩
theorem HLe.trans {H1 H2 H3 : List (Nat × Blk)} (h : HLe ρ H1 H2) (k : HLe ρ H2 H3) : HLe ρ H1 H3 := fun b k3 h3 => by
  obtain ⟨k2, h2, a1, a2, a3⟩ := k b k3 h3
  obtain ⟨k1, h1, b1, b2, b3⟩ := h b k2 h2
  exact ⟨k1, h1, a1.trans b1, a2.trans b2, fun β cs h => a3 β cs (b3 β cs h)⟩
theorem WR.merged {P : Program} {B : Nat} {w0 w : World} {L : Lst} {β : Lay} {H H' : List (Nat × Blk)} {n n' : Nat} (h : WR P ρ B w0 L β H n w) (hl : HLe ρ H H') (hn : n ≤ n') : WR P ρ B w0 L β H' n' w := by
  refine ⟨h.below, h.base, fun b hb => h.fresh b (by omega), fun b c k k' x y hb hc hx hy e => ?_, fun b k hb => ?_, h.ds, h.ls⟩
  · obtain ⟨k1, h1, _⟩ := hl b k hb
    obtain ⟨k2, h2, _⟩ := hl c k' hc
    exact h.inj b c k1 k2 x y h1 h2 hx hy e
  · obtain ⟨k1, h1, e1, e2, e3⟩ := hl b k hb
    obtain ⟨ad, cap, cs, cur, q1, q2, q3, q4, q5, q6, q7⟩ := h.blk b k1 h1
    refine ⟨ad, cap, cs, cur, q1, e3 _ _ q2, q3, by rw [e1]; exact q4, q5, q6, ?_⟩
    unfold RowOk at q7 ⊢
    rw [e2, e1]
    exact q7
theorem mergeB_ok {k k' z : Blk} (h : mergeB c k k' = some z) {t : Bool} (ht : c.tru ρ = t) : z.ty = (if t then k else k').ty ∧ z.row = (if t then k else k').row ∧ ∀ β cs, denL ρ β (if t then k else k').cells = some cs → denL ρ β z.cells = some cs := by
  unfold mergeB at h
  split at h
  · rename_i hb
    simp only [Bool.and_eq_true] at hb
    have e1 := Nat.eq_of_beq_eq_true hb.1
    have e2 : k.row = k'.row := by
      have := hb.2
      cases h1 : k.row <;> cases h2 : k'.row <;> rw [h1, h2] at this <;> first | rfl | (cases this; done) | (simp only [oSame] at this; rw [Nat.eq_of_beq_eq_true this])
    split at h
    · rename_i l hl
      cases h
      refine ⟨by cases t <;> first | exact e1 | rfl, by cases t <;> first | exact e2 | rfl, fun β cs hcs => mergeL_ok ht hl (by cases t <;> exact hcs)⟩
    · cases h
  · cases h
theorem mergeH_ok {H' : List (Nat × Blk)} {t : Bool} (ht : c.tru ρ = t) : ∀ {H z : List (Nat × Blk)}, mergeH c H' H = some z → HLe ρ (if t then H else H') z
  | [], z, h => by cases h; intro b k h; cases h
  | (b0, k0) :: r, z, h => by
    have put : ∀ {y : Blk} {k2 : Blk} {l : List (Nat × Blk)}, lk H' b0 = some k2 → mergeH c H' r = some l → (y.ty = (if t then k0 else k2).ty ∧ y.row = (if t then k0 else k2).row ∧ ∀ β cs, denL ρ β (if t then k0 else k2).cells = some cs → denL ρ β y.cells = some cs) →
        HLe ρ (if t then (b0, k0) :: r else H') ((b0, y) :: l) := by
      intro y k2 l hk2 hl hy b k' hq
      have ih := mergeH_ok (H' := H') ht hl
      rw [lk_cons] at hq
      split at hq
      · rename_i e
        subst e
        cases hq
        cases t
        · exact ⟨k2, hk2, hy⟩
        · exact ⟨k0, by show lk ((b, k0) :: r) b = some k0; rw [lk_cons, if_pos rfl], hy⟩
      · rename_i hne
        obtain ⟨k, hk, e⟩ := ih b k' hq
        refine ⟨k, ?_, e⟩
        cases t
        · exact hk
        · show lk ((b0, k0) :: r) b = some k
          rw [lk_cons, if_neg hne]; exact hk
    unfold mergeH at h
    split at h
    · rename_i k2 hk2
      split at h
      · rename_i hs
        have := Blk.same_eq hs
        subst this
        split at h
        · rename_i l hl
          cases h
          exact put hk2 hl (by cases t <;> exact ⟨rfl, rfl, fun _ _ h => h⟩)
        · cases h
      · split at h
        · rename_i y l hy hl
          cases h
          exact put hk2 hl (mergeB_ok hy ht)
        · cases h
    · cases h
end
/-- of a callee's end: the value, the blocks, as they are brought together -/
def EndOk (cx : Ctx) (ρ : Env) (fn : Func) (n0 : Nat) (e : End) (x : SX) (s : St) : Prop :=
  (∀ id, x ≠ .exit id) ∧ ∃ v, resV cx.P fn s = some v ∧ (∀ β u, v.den ρ β = some u → e.v.den ρ β = some u) ∧ HLe ρ (gcH n0 v s.H) e.H ∧ s.n ≤ e.n ∧ s.lp = e.lp
theorem mergeE_ok {c : SE} {x y z : End} (h : mergeE c x y = some z) {t : Bool} (ht : c.tru ρ = t) {fn : Func} {n0 : Nat} {xx : SX} {s : St} (he : EndOk cx ρ fn n0 (if t then x else y) xx s) : EndOk cx ρ fn n0 z xx s := by
  obtain ⟨h1, v, h2, h3, h4, h5, h6⟩ := he
  unfold mergeE at h
  split at h
  · rename_i v' hv
    split at h
    · rename_i hl
      have hl := lSame_eq lpSame_eq hl
      split at h
      · rename_i H hH
        cases h
        refine ⟨h1, v, h2, fun β u hu => ?_, ?_, ?_, ?_⟩
        · have := h3 β u hu
          exact mergeV_ok hv ht (by cases t <;> exact this)
        · have := mergeH_ok ht hH
          cases t
          · exact h4.trans this
          · exact h4.trans this
        · show s.n ≤ Nat.max x.n y.n
          cases t
          · exact Nat.le_trans h5 (Nat.le_max_right _ _)
          · exact Nat.le_trans h5 (Nat.le_max_left _ _)
        · cases t
          · exact h6.trans hl.symm
          · exact h6
      · cases h
    · cases h
  · cases h
theorem endsT_ok {fn : Func} {n0 : Nat} : ∀ {t : Tree} {e : End}, endsT cx.P fn n0 t = some e → t.Holds ρ (EndOk cx ρ fn n0 e)
  | .leaf x s, e, h => by
    cases x with
    | exit id => cases h
    | normal =>
      unfold endsT at h
      split at h
      · rename_i v hv; cases h; exact ⟨(by intro id q; cases q), v, hv, fun _ _ h => h, HLe.refl _, Nat.le_refl _, rfl⟩
      · cases h
    | ret =>
      unfold endsT at h
      split at h
      · rename_i v hv; cases h; exact ⟨(by intro id q; cases q), v, hv, fun _ _ h => h, HLe.refl _, Nat.le_refl _, rfl⟩
      · cases h
  | .br c a b, e, h => by
    unfold endsT at h
    split at h
    · rename_i x hx
      split at h
      · rename_i y hy
        have ha := endsT_ok hx
        have hb := endsT_ok hy
        show if c.tru ρ then a.Holds ρ _ else b.Holds ρ _
        cases ht : c.tru ρ
        · exact Tree.holds_mono (fun xx s he => mergeE_ok h ht (by exact he)) _ hb
        · exact Tree.holds_mono (fun xx s he => mergeE_ok h ht (by exact he)) _ ha
      · cases h
    · cases h
  | .fail _, e, h => by cases h
  | .all _ _, e, h => by cases h
theorem oneS_ok (ok : cx.Ok ρ) (hsums : SumsOk cx ρ) {go : Bool → Code → St → Tree} (hgo : ∀ inr, Goes cx ρ ys inr (go inr)) {inr : Bool} {F : Fence} (hF : FOk inr F) {n : Nat} {Q : Exit → Act → World → Prop} {k : St → Tree} {K : Act → World → Prop} (hR : RelS cx ρ ρ.B ρ.w0 D0 ys L s β a w)
    (hk : ∀ s' β' L' a' w', β.le β' → RelS cx ρ ρ.B ρ.w0 D0 ys L' s' β' a' w' → (k s').Holds ρ (Post cx ρ ρ.B ρ.w0 D0 ys β Q) → K a' w')
    (h : (oneS cx ys go o k s).Holds ρ (Post cx ρ ρ.B ρ.w0 D0 ys β Q)) : o.wpIn F n cx.P a w K Q := by
  unfold oneS at h
  split at h
  · -- a call
    rename_i hcall
    split at h
    · rename_i g x y xs hcal
      split at h
      · rename_i l hl
        unfold calleeS at hcal
        split at hcal
        · rename_i f args argTypes hop
          split at hcal
          · rename_i g' x' y' hfn
            cases hcal
            obtain ⟨p, q, hp, hq, hfv⟩ := fn_ok (opc_ok hR.pc (hR.ev f) hfn)
            unfold callS at h
            split at h
            · rename_i fn hfun
              split at h
              · exact h.elim
              · rename_i hname
                split at h
                · rename_i c hbody
                  have hargs : denA ρ β (ptrSV x ++ (l ++ ptrSV y)) = some (p ++ (args.toList.map a.eval ++ q)) := denA_append (ptrSV_ok hp) (denA_append (argsS_ok hR hl) (ptrSV_ok hq))
                  have hA : p.toArray ++ args.map a.eval ++ q.toArray = (p ++ (args.toList.map a.eval ++ q)).toArray := by apply Array.ext'; simp
                  have hrun := run_call (w := w) hop hfv hfun hname hbody
                  rw [hA] at hrun
                  refine wpIn_of_run hF (by intro c hc; rw [hop] at hc; cases hc) hrun ?_
                  refine ⟨fun hdep => (by rw [hF.depth] at hdep; cases hdep), ?_⟩
                  split at h
                  · rename_i v hv
                    split at h
                    · rename_i s' hs'
                      unfold sumS at hv
                      split at hv
                      · rename_i sm hsum
                        obtain ⟨u, hu, hc⟩ := hsums _ _ hsum _ _ _ _ hv hR.pc L β _ w _ hR.wr (by rw [knownA_ok hR.pc]; exact hargs)
                        refine hF.calls (hc.mono ?_)
                        rintro e w' ⟨rfl, hb⟩
                        exact hk s' β L _ w' (Lay.le_refl _) (putS_ok hR (Lay.le_refl _) hu (hR.wr.after hb) hs') h
                      · cases hv
                    · exact h.elim
                  · split at h
                    · rename_i hle
                      have hle := Nat.le_of_ble_eq_true hle
                      have hr0 := enter_ok hR.wr hR.pc hR.loops hargs hle
                      refine hF.callsIn (m := 0) (callsIn_of_wp_marks hfun hbody trivial ?_)
                      refine hgo false Fence.wide 0 rfl L.ds L c _ β _ w _ hr0 ?_
                      have plain : (Tree.bind (retS cx.P fn s o.dst k) (go false c { F := slots 0 (ptrSV x ++ (l ++ ptrSV y)), H := s.H, n := s.n, pc := s.pc, nt := fn.ntmps, lp := s.lp })).Holds ρ (Post cx ρ ρ.B ρ.w0 D0 ys β Q) →
                          (go false c { F := slots 0 (ptrSV x ++ (l ++ ptrSV y)), H := s.H, n := s.n, pc := s.pc, nt := fn.ntmps, lp := s.lp }).Holds ρ (Post cx ρ ρ.B ρ.w0 L.ds ys β fun e a' w' => bodyPostM Fence.wide 0 cx.P fn (fun
                            | .returned v, w'' => K (a.put o.dst v) w''
                            | .panicked chain, w'' => Q (.panic chain) a w''
                            | .outgrown, _ => LetsOut Q) e a' w') := by
                        intro h
                        refine Tree.holds_mono ?_ _ (Tree.holds_bind _ h)
                        intro xx s1 hret β1 L1 a1 w1 hle1 hr1
                        have hnr : ∀ v s2, resV cx.P fn s1 = some v → putS { s with pc := s1.pc, lp := s1.lp } o.dst v (gcH s.n v s1.H) s1.n = some s2 → (k s2).Holds ρ (Post cx ρ ρ.B ρ.w0 D0 ys β Q) →
                            LeavesInM Fence.wide 0 cx.P fn a1.tmps (fun
                              | .returned v, w'' => K (a.put o.dst v) w''
                              | .panicked chain, w'' => Q (.panic chain) a w''
                              | .outgrown, _ => LetsOut Q) a1.defers .returning w1 := by
                          intro v s2 hv hs2 hk2
                          obtain ⟨ds, h1, h2, h3⟩ := hr1.marks.own
                          rw [h1]
                          refine leaves_ok hv hr1.frame (fun w3 xv hxv hW3 => ?_) ds L1 w1 h2 h3 hr1.marks.old rfl hr1.wr
                          refine hk s2 β1 ⟨L.ds, L1.ls⟩ _ w3 hle1 (putS_gen (s := { s with pc := s1.pc, lp := s1.lp }) (D0 := D0) (ys := ys) hR.frame hR.size hr1.pc hle1 hxv (hW3.less fun b k h => keepH_lk _ _ b k _ h) (hr1.loops.ls rfl) ⟨?_, hR.marks.old⟩ hs2) hk2
                          exact hR.marks.own
                        unfold retS at hret
                        cases xx with
                        | exit id => exact hret.elim
                        | normal =>
                          simp only [] at hret
                          split at hret
                          · rename_i v hv
                            split at hret
                            · rename_i s2 hs2
                              exact hnr v s2 hv hs2 hret
                            · exact hret.elim
                          · exact hret.elim
                        | ret =>
                          simp only [] at hret
                          split at hret
                          · rename_i v hv
                            split at hret
                            · rename_i s2 hs2
                              exact hnr v s2 hv hs2 hret
                            · exact hret.elim
                          · exact hret.elim
                      have merged : ∀ e s2, endsT cx.P fn s.n (go false c { F := slots 0 (ptrSV x ++ (l ++ ptrSV y)), H := s.H, n := s.n, pc := s.pc, nt := fn.ntmps, lp := s.lp }) = some e → putS { s with lp := e.lp } o.dst e.v e.H e.n = some s2 → (k s2).Holds ρ (Post cx ρ ρ.B ρ.w0 D0 ys β Q) →
                          (go false c { F := slots 0 (ptrSV x ++ (l ++ ptrSV y)), H := s.H, n := s.n, pc := s.pc, nt := fn.ntmps, lp := s.lp }).Holds ρ (Post cx ρ ρ.B ρ.w0 L.ds ys β fun e a' w' => bodyPostM Fence.wide 0 cx.P fn (fun
                            | .returned v, w'' => K (a.put o.dst v) w''
                            | .panicked chain, w'' => Q (.panic chain) a w''
                            | .outgrown, _ => LetsOut Q) e a' w') := by
                        intro e s2 he hs2 hk2
                        refine Tree.holds_mono ?_ _ (endsT_ok (ρ := ρ) he)
                        intro xx s1 hend β1 L1 a1 w1 hle1 hr1
                        obtain ⟨g1, v, hv, g2, g3, g4, g5⟩ := hend
                        have hnr : LeavesInM Fence.wide 0 cx.P fn a1.tmps (fun
                              | .returned v, w'' => K (a.put o.dst v) w''
                              | .panicked chain, w'' => Q (.panic chain) a w''
                              | .outgrown, _ => LetsOut Q) a1.defers .returning w1 := by
                          obtain ⟨ds, h1, h2, h3⟩ := hr1.marks.own
                          rw [h1]
                          refine leaves_ok hv hr1.frame (fun w3 xv hxv hW3 => ?_) ds L1 w1 h2 h3 hr1.marks.old rfl hr1.wr
                          refine hk s2 β1 ⟨L.ds, L1.ls⟩ _ w3 hle1 (putS_gen (s := { s with lp := e.lp }) (D0 := D0) (ys := ys) hR.frame hR.size hR.pc hle1 (g2 _ _ hxv) (WR.merged (hW3.less fun b k h => keepH_lk _ _ b k _ h) g3 g4) (by have := hr1.loops.ls (L' := ⟨L.ds, L1.ls⟩) rfl; rw [g5] at this; exact this) ⟨?_, hR.marks.old⟩ hs2) hk2
                          exact hR.marks.own
                        cases xx with
                        | exit id => exact absurd rfl (g1 id)
                        | normal => exact hnr
                        | ret => exact hnr
                      unfold callT at h
                      split at h
                      · exact plain h
                      · split at h
                        · rename_i c' ta tb htree
                          split at h
                          · rename_i e he
                            split at h
                            · rename_i s2 hs2
                              rw [← htree] at he
                              exact merged e s2 he hs2 h
                            · exact h.elim
                          · rw [← htree] at h; exact plain h
                        · exact plain h
                    · exact h.elim
                · exact h.elim
            · exact h.elim
          · cases hcal
        · cases hcal
      · exact h.elim
    · split at h
      · rename_i b xs hy
        split at h
        · rename_i l hl
          unfold yldS at hy
          split at hy
          · rename_i f args argTypes hop
            split at hy
            · rename_i b' hfn
              cases hy
              exact yieldS_ok hgo hF hR hk hop (opc_ok hR.pc (hR.ev f) hfn) hl h
            · cases hy
          · cases hy
        · exact h.elim
      · exact h.elim
  · split at h
    · rename_i v H m hop
      split at h
      · rename_i s' hs'
        obtain ⟨β', w', x, hle, hx, hW, hr, _⟩ := opS_ok ok hR.pc hR.wr (fun y _ => hR.ev y) hop
        have hR' := putS_ok hR hle hx hW hs'
        rcases hr with hr | ⟨hr, rfl⟩
        · exact wpIn_of_run hF (not_defer hop) hr (hk s' β' L _ w' hle hR' h)
        · exact wpIn_of_run hF (not_defer hop) hr (hk s' β' L _ w' hle hR' h)
      · exact h.elim
    · exact splitS_ok ok hF hR hk h
theorem guardS_ok (hR : RelS cx ρ B w0 D0 ys L s β a w) {ops : Array Oper} {e : SE} (h : guardS s ops o.guard = some e) : Region.wanted o (yielded ops a.tmps) = e.tru ρ := by
  unfold guardS at h
  split at h
  · rename_i hg; cases h; simp [Region.wanted, hg]; rfl
  · rename_i j want hg
    split at h
    · rename_i d hd
      split at h
      · rename_i e' he
        obtain ⟨x, hx, ht⟩ := hR.frame _ _ he
        have := bool_ok (β := β) hx
        subst this
        simp only [Region.wanted, hg, yielded, hd, Option.bind_some, ht]
        cases h
        cases want
        · simp only []
          rw [mkNot_ok]
          cases e'.tru ρ <;> rfl
        · simp only []
          cases e'.tru ρ <;> rfl
      · rename_i c e' he
        obtain ⟨x, hx, ht⟩ := hR.frame _ _ he
        simp only [SV.den] at hx
        cases h
        rw [mkAnd_ok]
        simp only [Region.wanted, hg, yielded, hd, Option.bind_some, ht]
        cases hc : c.tru ρ
        · rw [hc] at hx
          simp only [Bool.false_eq_true, if_false] at hx
          cases hx
          rfl
        · rw [hc] at hx
          simp only [if_true] at hx
          have := bool_ok (β := β) hx
          subst this
          cases want
          · simp only []
            rw [mkNot_ok]
            cases e'.tru ρ <;> rfl
          · simp only []
            cases e'.tru ρ <;> rfl
      · rename_i he
        obtain ⟨x, hx, ht⟩ := hR.frame _ _ he
        cases hx
        cases h
        simp only [Region.wanted, hg, yielded, hd, Option.bind_some, ht]
        rfl
      · cases h
    · cases h
theorem trialS_ok (ok : cx.Ok ρ) (hR : RelS cx ρ B w0 D0 ys L s β a w) {e : SE} {s' : St} (h : trialS cx e o s = some s') :
    (e.tru ρ = true → ∃ x, RelS cx ρ B w0 D0 ys L s' β (a.put o.dst x) w ∧ (execOp a.eval o).run cx.P w = .ok (.value x) w) ∧
    (e.tru ρ = false → RelS cx ρ B w0 D0 ys L s' β (a.put o.dst Go.undef) w) := by
  unfold trialS at h
  have hput : ¬ Lays o ∧ ∃ v H n, opS cx s (assume s.pc e true) o = some (.p v, H, n) ∧ putS s o.dst (.gd e v) s.H s.n = some s' := by
    split at h
    · cases h
    · rename_i hl
      split at h
      · rename_i v H n hop
        refine ⟨?_, v, H, n, hop, h⟩
        unfold Lays
        intro e
        rw [e] at hl
        cases hl
      · cases h
  obtain ⟨hnl, v, H, n, hop, hput⟩ := hput
  refine ⟨fun ht => ?_, fun hf => putS_ok hR (Lay.le_refl _) (by simp [SV.den, hf]) hR.wr hput⟩
  obtain ⟨β', w', x, hle, hx, hW, _, hl⟩ := opS_ok ok (assume_ok hR.pc ht) hR.wr (fun y _ => hR.ev y) hop
  rcases hl with ⟨hr, rfl, rfl⟩ | hl
  · exact ⟨x, putS_ok hR (Lay.le_refl _) (by simp only [SV.den, ht, if_true]; exact hx) hR.wr hput, hr⟩
  · exact absurd hl hnl
theorem trial_not {e : SE} {s s' : St} (h : trialS cx e o s = some s') : ∀ c, o.op ≠ .defer c := by
  intro c hc
  unfold trialS at h
  split at h
  · cases h
  · split at h
    · rename_i hop; exact absurd hc (not_defer hop c)
    · cases h
theorem skipS_ok {K : Act → World → Prop} {T : Tree → Prop} {k : St → Tree} (hR : RelS cx ρ B w0 D0 ys L s β a w) (hT : ∀ n, ¬ T (.fail n)) 
    (hk : ∀ s', RelS cx ρ B w0 D0 ys L s' β (a.put o.dst Go.undef) w → T (k s') → K (a.put o.dst Go.undef) w)
    (h : T (skipS o k s)) : K (a.put o.dst Go.undef) w := by
  unfold skipS at h
  split at h
  · rename_i s' hs'; exact hk s' (putS_ok hR (Lay.le_refl _) rfl hR.wr hs') h
  · exact absurd h (hT _)
/-- one operation, wanted or not -/
theorem stepS_ok (ok : cx.Ok ρ) (hsums : SumsOk cx ρ) {go : Bool → Code → St → Tree} (hgo : ∀ inr, Goes cx ρ ys inr (go inr)) {inr : Bool} {F : Fence} (hF : FOk inr F) {n : Nat} {Q : Exit → Act → World → Prop} {k : St → Tree} {K : Act → World → Prop} {ops : Array Oper} (hR : RelS cx ρ ρ.B ρ.w0 D0 ys L s β a w)
    (hk : ∀ s' β' L' a' w', β.le β' → RelS cx ρ ρ.B ρ.w0 D0 ys L' s' β' a' w' → (k s').Holds ρ (Post cx ρ ρ.B ρ.w0 D0 ys β Q) → K a' w')
    (h : (stepS cx ys go ops o k s).Holds ρ (Post cx ρ ρ.B ρ.w0 D0 ys β Q)) :
    if Region.wanted o (yielded ops a.tmps) then o.wpIn F n cx.P a w K Q else (∀ f, o.about cx.P w a.eval = some f → F.fn f) ∧ K (a.put o.dst Go.undef) w := by
  unfold stepS at h
  have hskip : ∀ s2, RelS cx ρ ρ.B ρ.w0 D0 ys L s2 β a w → (skipS o k s2).Holds ρ (Post cx ρ ρ.B ρ.w0 D0 ys β Q) → K (a.put o.dst Go.undef) w := fun s2 h2 hh =>
    skipS_ok (T := fun t => t.Holds ρ (Post cx ρ ρ.B ρ.w0 D0 ys β Q)) h2 (fun _ h => h) (fun s' hs' hh => hk s' β L _ w (Lay.le_refl _) hs' hh) hh
  split at h
  · exact h.elim
  · rename_i e he
    rw [guardS_ok hR he]
    split at h
    · rename_i hd
      rw [if_pos (decT_ok hR.pc hd)]
      exact oneS_ok ok hsums hgo hF hR hk h
    · rename_i hd
      rw [if_neg (by rw [decT_ok hR.pc hd]; simp)]
      exact ⟨fun f _ => hF.fn f, hskip s hR h⟩
    · split at h
      · rename_i s' hs'
        obtain ⟨h1, h2⟩ := trialS_ok ok hR hs'
        cases ht : e.tru ρ
        · rw [if_neg (by simp)]
          exact ⟨fun f _ => hF.fn f, hk s' β L _ w (Lay.le_refl _) (h2 ht) h⟩
        · rw [if_pos rfl]
          obtain ⟨x, hx, hr⟩ := h1 ht
          exact wpIn_of_run hF (trial_not hs') hr (hk s' β L _ w (Lay.le_refl _) hx h)
      · obtain ⟨h1, h2⟩ := branch_ok hR.pc h
        cases ht : e.tru ρ
        · rw [if_neg (by simp)]
          exact ⟨fun f _ => hF.fn f, hskip _ (with_pc' hR (assume_ok hR.pc ht)) (h2 ht)⟩
        · rw [if_pos rfl]
          exact oneS_ok ok hsums hgo hF (with_pc' hR (assume_ok hR.pc ht)) hk (h1 ht)
theorem opsS_ok (ok : cx.Ok ρ) (hsums : SumsOk cx ρ) {go : Bool → Code → St → Tree} (hgo : ∀ inr, Goes cx ρ ys inr (go inr)) {inr : Bool} {F : Fence} (hF : FOk inr F) {n : Nat} {Q : Exit → Act → World → Prop} {ops : Array Oper} : ∀ (r : List Oper) (l : List Nat), l.map (fun i => ops[i]?) = r.map some → ∀ {L : Lst} {s : St} {β : Lay} {a : Act} {w : World},
    RelS cx ρ ρ.B ρ.w0 D0 ys L s β a w → (opsS cx ys go ops r s).Holds ρ (Post cx ρ ρ.B ρ.w0 D0 ys β Q) → wpOpsIn F n cx.P ops Q l a w
  | [], l, hl, L, s, β, a, w, hR, h => by
    cases l with
    | nil => exact h β L a w (Lay.le_refl _) hR
    | cons i l => cases hl
  | o :: r, l, hl, L, s, β, a, w, hR, h => by
    cases l with
    | nil => cases hl
    | cons i l =>
      simp only [List.map_cons, List.cons.injEq] at hl
      simp only [wpOpsIn, hl.1]
      refine stepS_ok ok hsums hgo hF hR (K := wpOpsIn F n cx.P ops Q l) (k := opsS cx ys go ops r) ?_ h
      intro s' β' L' a' w' hle hR' hh
      exact opsS_ok ok hsums hgo hF r l hl.2 hR' (Tree.holds_mono (fun x s hp => Post.le hle hp) _ hh)
end
end Go.Proofs.Ytopfaapcekiojaa.Sym
