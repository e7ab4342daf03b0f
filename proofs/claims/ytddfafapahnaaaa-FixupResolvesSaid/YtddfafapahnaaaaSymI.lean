/- The executor's runs of regions and of code are right; a function's contract out of its run. -/
import Derived.Test.YtddfafapahnaaaaSymH
namespace Go.Proofs.Ytddfafapahnaaaa.Sym
open Go Go.RowKit Go.Proofs.Ytddfafapahnaaaa

section
variable {cx : Ctx} {ρ : Env} {B : Nat} {w0 w : World} {β : Lay} {s : St} {a : Act} {o : Oper}

/-- an own function is called -/
theorem run_call {g : FuncId} {fn : Func} {f : Operand} {args : Array Operand} {argTypes : Array TypeId} {ev : Operand → Value} {P : Program} (ho : o.op = .call { callee := .value f, args := args, argTypes := argTypes }) {A1 A2 : Array Value}
    (hf : ev f = .func (.func g) A1 A2) (hg : P.funcs[g]? = some fn) (hn : (fn.name == "runtime.NumGoroutine") = false) {c : Code} (hb : fn.body = some c) (w : World) :
    (execOp ev o).run P w = .ok (.enter g (A1 ++ args.map ev ++ A2)) w := by
  have hn' : fn.name ≠ "runtime.NumGoroutine" := by simpa using hn
  simp [execOp, ho, resolve, Deferred.ofValue, hf, invoke, callFunc, hg, hn', hb]
theorem fn_ok {g : FuncId} {x y : List (Nat × Nat)} {u : Value} (h : (SC.fn g x y).den ρ β = some u) : ∃ p q, ptrs β x = some p ∧ ptrs β y = some q ∧ u = .func (.func g) p.toArray q.toArray := by
  simp only [SC.den] at h
  split at h
  · rename_i p q hp hq; exact ⟨p, q, hp, hq, (Option.some.inj h).symm⟩
  · cases h
theorem keepH_lk (n0 : Nat) (seen : List Nat) (b : Nat) (k : Blk) : ∀ H : List (Nat × Blk), lk (keepH n0 seen H) b = some k → lk H b = some k
  | [], h => h
  | (c, k') :: r, h => by
    unfold keepH at h
    rw [lk_cons]
    split at h
    · rw [lk_cons] at h
      split at h
      · rename_i e; rw [if_pos e]; exact h
      · rename_i e; rw [if_neg e]; exact keepH_lk n0 seen b k r h
    · rename_i hk
      have ih := keepH_lk n0 seen b k r h
      by_cases e : b = c
      · exfalso
        subst e
        have : ∀ H : List (Nat × Blk), lk (keepH n0 seen H) b = none := by
          intro H
          induction H with
          | nil => rfl
          | cons x r ih =>
            obtain ⟨d, kd⟩ := x
            unfold keepH
            split
            · rename_i hd
              rw [lk_cons, if_neg (by rintro rfl; rw [hk] at hd; cases hd)]
              exact ih
            · exact ih
        rw [this] at h
        cases h
      · rw [if_neg e]; exact ih
theorem WR.less {H H' : List (Nat × Blk)} {n : Nat} (h : WR cx.P ρ B w0 β H n w) (hs : ∀ b k, lk H' b = some k → lk H b = some k) : WR cx.P ρ B w0 β H' n w :=
  ⟨h.below, h.base, h.fresh, fun b c k k' x y hb hc => h.inj b c k k' x y (hs b k hb) (hs c k' hc), fun b k hb => h.blk b k (hs b k hb)⟩
theorem oneS_ok (ok : cx.Ok ρ) (hsums : SumsOk cx ρ) {go : Code → St → Tree} (hgo : Goes cx ρ go) {Q : Exit → Act → World → Prop} {k : St → Tree} {K : Act → World → Prop} (hR : RelS cx ρ ρ.B ρ.w0 s β a w)
    (hk : ∀ s' β' a' w', β.le β' → RelS cx ρ ρ.B ρ.w0 s' β' a' w' → a'.defers = a.defers → (k s').Holds ρ (Post cx ρ ρ.B ρ.w0 β a.defers Q) → K a' w')
    (h : (oneS cx go o k s).Holds ρ (Post cx ρ ρ.B ρ.w0 β a.defers Q)) : o.wp cx.P a w K Q := by
  unfold oneS at h
  split at h
  · -- a call
    rename_i hcall
    split at h
    · rename_i g x y xs hcal
      split at h
      · rename_i l hl
        unfold calleeS at hcal
        split at hcal
        · rename_i f args argTypes hop
          split at hcal
          · rename_i g' x' y' hfn
            cases hcal
            obtain ⟨p, q, hp, hq, hfv⟩ := fn_ok (opc_ok hR.pc (hR.ev f) hfn)
            unfold callS at h
            split at h
            · rename_i fn hfun
              split at h
              · exact h.elim
              · rename_i hname
                split at h
                · rename_i c hbody
                  have hargs : denA ρ β (ptrSV x ++ (l ++ ptrSV y)) = some (p ++ (args.toList.map a.eval ++ q)) := denA_append (ptrSV_ok hp) (denA_append (argsS_ok hR hl) (ptrSV_ok hq))
                  have hA : p.toArray ++ args.map a.eval ++ q.toArray = (p ++ (args.toList.map a.eval ++ q)).toArray := by apply Array.ext'; simp
                  have hrun := run_call (w := w) hop hfv hfun hname hbody
                  rw [hA] at hrun
                  unfold Oper.wp
                  rw [hrun]
                  show Calls cx.P _ _ w _
                  split at h
                  · rename_i sm hsum
                    split at h
                    · rename_i v hv
                      split at h
                      · rename_i s' hs'
                        obtain ⟨u, hu, hc⟩ := hsums _ _ hsum _ _ _ hv β _ w _ hR.wr hargs
                        refine hc.mono ?_
                        rintro e w' ⟨rfl, hb⟩
                        exact hk s' β _ w' (Lay.le_refl _) (putS_ok hR (Lay.le_refl _) hu (hR.wr.after hb) hs') (put_defers _ _ _) h
                      · exact h.elim
                    · exact h.elim
                  · split at h
                    · rename_i hle
                      have hle := Nat.le_of_ble_eq_true hle
                      have hr0 := enter_ok hR.wr hR.pc hargs hle
                      refine calls_of_wp hfun hbody ?_
                      refine hgo c _ β _ w _ hr0 ?_
                      refine Tree.holds_mono ?_ _ (Tree.holds_bind _ h)
                      intro xx s1 hret β1 a1 w1 hle1 hr1 hd1
                      have hnr : ∀ v s2, resV cx.P fn s1 = some v → putS { s with pc := s1.pc } o.dst v (gcH s.n v s1.H) s1.n = some s2 → (k s2).Holds ρ (Post cx ρ ρ.B ρ.w0 β a.defers Q) →
                          ∃ v', (results fn a1.tmps).run cx.P w1 = .ok v' w1 ∧ K (a.put o.dst v') w1 := by
                        intro v s2 hv hs2 hk2
                        obtain ⟨u, hu, hrun⟩ := resV_ok hr1 hv
                        have hR' : RelS cx ρ ρ.B ρ.w0 { s with pc := s1.pc } β a w := ⟨hR.frame, hR.size, hR.wr, hr1.pc⟩
                        exact ⟨u, hrun, hk s2 β1 _ w1 hle1 (putS_ok hR' hle1 hu (hr1.wr.less fun b k h => keepH_lk _ _ b k _ h) hs2) (put_defers _ _ _) hk2⟩
                      unfold retS at hret
                      cases xx with
                      | exit id => exact hret.elim
                      | normal =>
                        simp only [] at hret
                        split at hret
                        · rename_i v hv
                          split at hret
                          · rename_i s2 hs2
                            obtain ⟨u, hrun, hK⟩ := hnr v s2 hv hs2 hret
                            exact ⟨hd1, u, hrun, hK⟩
                          · exact hret.elim
                        · exact hret.elim
                      | ret =>
                        simp only [] at hret
                        split at hret
                        · rename_i v hv
                          split at hret
                          · rename_i s2 hs2
                            obtain ⟨u, hrun, hK⟩ := hnr v s2 hv hs2 hret
                            exact ⟨hd1, u, hrun, hK⟩
                          · exact hret.elim
                        · exact hret.elim
                    · exact h.elim
                · exact h.elim
            · exact h.elim
          · cases hcal
        · cases hcal
      · exact h.elim
    · exact h.elim
  · split at h
    · rename_i v H m hop
      split at h
      · rename_i s' hs'
        obtain ⟨β', w', x, hle, hx, hW, hr, _⟩ := opS_ok ok hR.pc hR.wr (fun y _ => hR.ev y) hop
        have hR' := putS_ok hR hle hx hW hs'
        rcases hr with hr | ⟨hr, rfl⟩
        · (unfold Oper.wp; rw [hr]; exact hk s' β' _ w' hle hR' (put_defers _ _ _) h)
        · (unfold Oper.wp; rw [hr]; exact hk s' β' _ w' hle hR' (put_defers _ _ _) h)
      · exact h.elim
    · exact h.elim
theorem guardS_ok (hR : RelS cx ρ B w0 s β a w) {ops : Array Oper} {e : SE} (h : guardS s ops o.guard = some e) : Region.wanted o (yielded ops a.tmps) = e.tru ρ := by
  unfold guardS at h
  split at h
  · rename_i hg; cases h; simp [Region.wanted, hg]; rfl
  · rename_i j want hg
    split at h
    · rename_i d hd
      split at h
      · rename_i e' he
        obtain ⟨x, hx, ht⟩ := hR.frame _ _ he
        have := bool_ok (β := β) hx
        subst this
        simp only [Region.wanted, hg, yielded, hd, Option.bind_some, ht]
        cases h
        cases want
        · simp only []
          rw [mkNot_ok]
          cases e'.tru ρ <;> rfl
        · simp only []
          cases e'.tru ρ <;> rfl
      · rename_i c e' he
        obtain ⟨x, hx, ht⟩ := hR.frame _ _ he
        simp only [SV.den] at hx
        cases h
        rw [mkAnd_ok]
        simp only [Region.wanted, hg, yielded, hd, Option.bind_some, ht]
        cases hc : c.tru ρ
        · rw [hc] at hx
          simp only [Bool.false_eq_true, if_false] at hx
          cases hx
          rfl
        · rw [hc] at hx
          simp only [if_true] at hx
          have := bool_ok (β := β) hx
          subst this
          cases want
          · simp only []
            rw [mkNot_ok]
            cases e'.tru ρ <;> rfl
          · simp only []
            cases e'.tru ρ <;> rfl
      · rename_i he
        obtain ⟨x, hx, ht⟩ := hR.frame _ _ he
        cases hx
        cases h
        simp only [Region.wanted, hg, yielded, hd, Option.bind_some, ht]
        rfl
      · cases h
    · cases h
theorem with_pc (hR : RelS cx ρ B w0 s β a w) {pc : List (SE × Bool)} (h : PcOk ρ pc) : RelS cx ρ B w0 { s with pc := pc } β a w := ⟨hR.frame, hR.size, hR.wr, h⟩
theorem trialS_ok (ok : cx.Ok ρ) (hR : RelS cx ρ B w0 s β a w) {e : SE} {s' : St} (h : trialS cx e o s = some s') :
    (e.tru ρ = true → ∃ x, RelS cx ρ B w0 s' β (a.put o.dst x) w ∧ (execOp a.eval o).run cx.P w = .ok (.value x) w) ∧
    (e.tru ρ = false → RelS cx ρ B w0 s' β (a.put o.dst Go.undef) w) := by
  unfold trialS at h
  have hput : ¬ Lays o ∧ ∃ v H n, opS cx s (assume s.pc e true) o = some (.p v, H, n) ∧ putS s o.dst (.gd e v) s.H s.n = some s' := by
    have key : (match isCallS o with
      | true => none
      | false => match opS cx s (assume s.pc e true) o with
        | some (.p v, _, _) => putS s o.dst (.gd e v) s.H s.n
        | _ => none) = some s' → ∃ v H n, opS cx s (assume s.pc e true) o = some (.p v, H, n) ∧ putS s o.dst (.gd e v) s.H s.n = some s' := by
      intro h
      split at h
      · cases h
      · split at h
        · rename_i v H n hop; exact ⟨v, H, n, hop, h⟩
        · cases h
    unfold Lays
    cases ho : o.op <;> simp only [ho] at h <;> first | (cases h; done) | exact ⟨id, key h⟩
  obtain ⟨hnl, v, H, n, hop, hput⟩ := hput
  refine ⟨fun ht => ?_, fun hf => putS_ok hR (Lay.le_refl _) (by simp [SV.den, hf]) hR.wr hput⟩
  obtain ⟨β', w', x, hle, hx, hW, _, hl⟩ := opS_ok ok (assume_ok hR.pc ht) hR.wr (fun y _ => hR.ev y) hop
  rcases hl with ⟨hr, rfl, rfl⟩ | hl
  · exact ⟨x, putS_ok hR (Lay.le_refl _) (by simp only [SV.den, ht, if_true]; exact hx) hR.wr hput, hr⟩
  · exact absurd hl hnl
theorem skipS_ok {K : Act → World → Prop} {T : Tree → Prop} {k : St → Tree} (hR : RelS cx ρ B w0 s β a w) (hT : ∀ n, ¬ T (.fail n)) 
    (hk : ∀ s', RelS cx ρ B w0 s' β (a.put o.dst Go.undef) w → T (k s') → K (a.put o.dst Go.undef) w)
    (h : T (skipS o k s)) : K (a.put o.dst Go.undef) w := by
  unfold skipS at h
  split at h
  · rename_i s' hs'; exact hk s' (putS_ok hR (Lay.le_refl _) rfl hR.wr hs') h
  · exact absurd h (hT _)
/-- one operation, wanted or not -/
theorem stepS_ok (ok : cx.Ok ρ) (hsums : SumsOk cx ρ) {go : Code → St → Tree} (hgo : Goes cx ρ go) {Q : Exit → Act → World → Prop} {k : St → Tree} {K : Act → World → Prop} {ops : Array Oper} (hR : RelS cx ρ ρ.B ρ.w0 s β a w)
    (hk : ∀ s' β' a' w', β.le β' → RelS cx ρ ρ.B ρ.w0 s' β' a' w' → a'.defers = a.defers → (k s').Holds ρ (Post cx ρ ρ.B ρ.w0 β a.defers Q) → K a' w')
    (h : (stepS cx go ops o k s).Holds ρ (Post cx ρ ρ.B ρ.w0 β a.defers Q)) :
    if Region.wanted o (yielded ops a.tmps) then o.wp cx.P a w K Q ∨ (o.asks cx.P a w ∧ LetsOut Q) else K (a.put o.dst Go.undef) w := by
  unfold stepS at h
  have hskip : ∀ s2, RelS cx ρ ρ.B ρ.w0 s2 β a w → (skipS o k s2).Holds ρ (Post cx ρ ρ.B ρ.w0 β a.defers Q) → K (a.put o.dst Go.undef) w := fun s2 h2 hh =>
    skipS_ok (T := fun t => t.Holds ρ (Post cx ρ ρ.B ρ.w0 β a.defers Q)) h2 (fun _ h => h) (fun s' hs' hh => hk s' β _ w (Lay.le_refl _) hs' (put_defers _ _ _) hh) hh
  split at h
  · exact h.elim
  · rename_i e he
    rw [guardS_ok hR he]
    split at h
    · rename_i hd
      rw [if_pos (dec_ok hR.pc hd)]
      exact .inl (oneS_ok ok hsums hgo hR hk h)
    · rename_i hd
      rw [if_neg (by rw [dec_ok hR.pc hd]; simp)]
      exact hskip s hR h
    · split at h
      · rename_i s' hs'
        obtain ⟨h1, h2⟩ := trialS_ok ok hR hs'
        cases ht : e.tru ρ
        · rw [if_neg (by simp)]
          exact hk s' β _ w (Lay.le_refl _) (h2 ht) (put_defers _ _ _) h
        · rw [if_pos rfl]
          obtain ⟨x, hx, hr⟩ := h1 ht
          refine .inl ?_
          unfold Oper.wp
          rw [hr]
          exact hk s' β _ w (Lay.le_refl _) hx (put_defers _ _ _) h
      · obtain ⟨h1, h2⟩ := branch_ok hR.pc h
        cases ht : e.tru ρ
        · rw [if_neg (by simp)]
          exact hskip _ (with_pc hR (assume_ok hR.pc ht)) (h2 ht)
        · rw [if_pos rfl]
          exact .inl (oneS_ok ok hsums hgo (with_pc hR (assume_ok hR.pc ht)) hk (h1 ht))
theorem opsS_ok (ok : cx.Ok ρ) (hsums : SumsOk cx ρ) {go : Code → St → Tree} (hgo : Goes cx ρ go) {Q : Exit → Act → World → Prop} {ops : Array Oper} : ∀ (r : List Oper) (l : List Nat), l.map (fun i => ops[i]?) = r.map some → ∀ {s : St} {β : Lay} {a : Act} {w : World},
    RelS cx ρ ρ.B ρ.w0 s β a w → (opsS cx go ops r s).Holds ρ (Post cx ρ ρ.B ρ.w0 β a.defers Q) → wpOps cx.P ops Q l a w
  | [], l, hl, s, β, a, w, hR, h => by
    cases l with
    | nil => exact h β a w (Lay.le_refl _) hR rfl
    | cons i l => cases hl
  | o :: r, l, hl, s, β, a, w, hR, h => by
    cases l with
    | nil => cases hl
    | cons i l =>
      simp only [List.map_cons, List.cons.injEq] at hl
      simp only [wpOps, hl.1]
      refine stepS_ok ok hsums hgo hR (K := wpOps cx.P ops Q l) (k := opsS cx go ops r) ?_ h
      intro s' β' a' w' hle hR' hd hh
      refine opsS_ok ok hsums hgo r l hl.2 hR' ?_
      rw [hd]
      exact Tree.holds_mono (fun x s hp => Post.le hle hp) _ hh
end
end Go.Proofs.Ytddfafapahnaaaa.Sym
