/- The executor's runs are right; a function's contract out of its run. -/
import Derived.Test.YtddfafapahnaaaaSymI
namespace Go.Proofs.Ytddfafapahnaaaa.Sym
open Go Go.RowKit Go.Proofs.Ytddfafapahnaaaa

section
variable {cx : Ctx} {ρ : Env} {B : Nat} {w0 w : World} {β : Lay} {s : St} {a : Act} {o : Oper}
theorem subF_ok {F1 F2 : List (Nat × SV)} : ∀ {l : List (Nat × SV)}, subF F1 F2 l = true → ∀ t v, lk l t = some v → ∀ u, lk F2 t = some u → lk F1 t = some u
  | [], _, t, v, h, _, _ => by cases h
  | (t', v') :: r, h, t, v, hl, u, hu => by
    simp only [subF, Bool.and_eq_true] at h
    rw [lk_cons] at hl
    by_cases e : t = t'
    · subst e
      have h1 := h.1
      rw [hu] at h1
      split at h1
      · rename_i x y hx hy
        cases hy
        rw [hx, SV.same_eq h1]
      · cases h1
    · rw [if_neg e] at hl
      exact subF_ok h.2 t v hl u hu
theorem subPc_ok {p1 : List (SE × Bool)} (hp : PcOk ρ p1) : ∀ {p2 : List (SE × Bool)}, subPc p1 p2 = true → PcOk ρ p2
  | [], _ => by intro c hc; cases hc
  | (e, b) :: r, h => by
    simp only [subPc, Bool.and_eq_true] at h
    intro c hc
    rcases List.mem_cons.1 hc with rfl | hc
    · have h1 := h.1
      split at h1
      · rename_i hf; have := findPc_ok hp hf; rw [this]; exact h1.symm
      · rename_i hf; have := findPc_ok hp hf; simp only [this]; simpa using h1.symm
      · cases h1
    · exact subPc_ok hp h.2 c hc
theorem sub_ok {s1 s2 : St} (h : s1.sub s2 = true) (hR : RelS cx ρ B w0 s1 β a w) : RelS cx ρ B w0 s2 β a w := by
  simp only [St.sub, Bool.and_eq_true] at h
  obtain ⟨h1, h2, h3, h4, h5⟩ := h
  have h2 := lSame_eq hSame_eq h2
  have h3 := Nat.eq_of_beq_eq_true h3
  have h4 := Nat.eq_of_beq_eq_true h4
  refine ⟨fun t v hv => hR.frame t v (subF_ok h1 t v hv v hv), ?_, ?_, subPc_ok hR.pc h5⟩
  · rw [← h4]; exact hR.size
  · rw [← h2, ← h3]; exact hR.wr
theorem covers_ok {d : List Deferred} {Q : Exit → Act → World → Prop} {s1 : St} : ∀ {t : Tree}, covers s1 t = true → t.Holds ρ (Post cx ρ B w0 β d Q) → Post cx ρ B w0 β d Q .normal s1
  | .leaf .normal s2, hc, h => fun β' a' w' hle hr hd => h β' a' w' hle (sub_ok hc hr) hd
  | .all a b, hc, h => by
    unfold covers at hc
    split at hc
    · rename_i ha; exact covers_ok ha h.1
    · exact covers_ok hc h.2
theorem joinS_ok {d : List Deferred} {Q : Exit → Act → World → Prop} : ∀ {x y : Tree}, (joinS x y).Holds ρ (Post cx ρ B w0 β d Q) → x.Holds ρ (Post cx ρ B w0 β d Q) ∧ y.Holds ρ (Post cx ρ B w0 β d Q)
  | .leaf .normal s1, y, h => by
    unfold joinS at h
    split at h
    · rename_i hc; exact ⟨covers_ok hc h, h⟩
    · exact h
  | .all a1 a2, y, h => by
    unfold joinS at h
    obtain ⟨h1, h2⟩ := joinS_ok h
    obtain ⟨h3, h4⟩ := joinS_ok h2
    exact ⟨⟨h1, h3⟩, h4⟩
  | .leaf (.exit _) _, y, h => h
  | .leaf .ret _, y, h => h
  | .br _ _ _, y, h => h
  | .fail _, y, h => h
theorem allS_ok {d : List Deferred} {Q : Exit → Act → World → Prop} {t : Nat → Tree} : ∀ {rs : List Nat}, (allS t rs).Holds ρ (Post cx ρ B w0 β d Q) → ∀ i ∈ rs, (t i).Holds ρ (Post cx ρ B w0 β d Q)
  | [], _, i, hi => by cases hi
  | [j], h, i, hi => by
    have : i = j := by simpa using hi
    subst this
    exact h
  | j :: k :: r, h, i, hi => by
    obtain ⟨h1, h2⟩ := joinS_ok h
    rcases List.mem_cons.1 hi with rfl | hi
    · exact h1
    · exact allS_ok h2 i hi
theorem pureS_ok (ok : cx.Ok ρ) (hR : RelS cx ρ B w0 s β a w) {pc : List (SE × Bool)} (hpc : PcOk ρ pc) {v : SV} (h : pureS cx s pc o = some v) : ∃ x, v.den ρ β = some x ∧ ∀ w, (execOp a.eval o).run cx.P w = .ok (.value x) w := by
  unfold pureS at h
  have key : (match opS cx { s with H := [] } pc o with
    | some (v, _, _) => some v
    | _ => none) = some v → ∃ H n, opS cx { s with H := [] } pc o = some (v, H, n) := by
    intro h
    split at h
    · rename_i v' H n hop; cases h; exact ⟨H, n, hop⟩
    · cases h
  have hl : ¬ Lays o ∧ ∃ H n, opS cx { s with H := [] } pc o = some (v, H, n) := by
    unfold Lays
    cases ho : o.op <;> simp only [ho] at h <;> first | (cases h; done) | exact ⟨id, key h⟩
  obtain ⟨hnl, H, n, hop⟩ := hl
  have hall : ∀ w, ∃ x, v.den ρ β = some x ∧ (execOp a.eval o).run cx.P w = .ok (.value x) w := by
    intro w
    have hW : WR cx.P ρ w.heap.size w β [] s.n w := ⟨Below.refl _ _, Nat.le_refl _, hR.wr.fresh, (by intro b c k k' x y h; cases h), (by intro b k h; cases h)⟩
    have hev : ∀ y ∈ o.op.operands.toList, EvOk ρ β { s with H := [] } a.eval y := fun y _ => hR.ev y
    obtain ⟨β', w', x, hle, hx, hW', _, hl⟩ := opS_ok (s := { s with H := [] }) ok hpc hW hev hop
    rcases hl with ⟨hr, rfl, rfl⟩ | hl
    · exact ⟨x, hx, hr⟩
    · exact absurd hl hnl
  obtain ⟨x, hx, _⟩ := hall w
  refine ⟨x, hx, fun w' => ?_⟩
  obtain ⟨y, hy, hr⟩ := hall w'
  rw [hx] at hy
  cases hy
  exact hr
theorem tryS_ok (ok : cx.Ok ρ) {ops : Array Oper} {listed : Array Bool} (hR : RelS cx ρ B w0 s β a w) {i : Nat} {s' : St} (h : tryS cx ops listed s i = some s') :
    ∃ o v, ops[i]? = some o ∧ Region.free .any ops listed i = true ∧ Yields cx.P ops o v a ∧ RelS cx ρ B w0 s' β (a.put o.dst v) w := by
  unfold tryS at h
  split at h
  · cases h
  · rename_i o ho
    split at h
    · cases h
    · rename_i hf
      split at h
      · cases h
      · rename_i e he
        have hg := guardS_ok hR he
        split at h
        · rename_i hd
          exact ⟨o, Go.undef, ho, hf, .inr ⟨by rw [hg, dec_ok hR.pc hd], rfl⟩, putS_ok hR (Lay.le_refl _) rfl hR.wr h⟩
        · rename_i hd
          split at h
          · rename_i v hv
            obtain ⟨x, hx, hr⟩ := pureS_ok ok hR hR.pc hv
            exact ⟨o, x, ho, hf, .inl ⟨by rw [hg, dec_ok hR.pc hd], hr⟩, putS_ok hR (Lay.le_refl _) hx hR.wr h⟩
          · cases h
        · split at h
          · rename_i v hv
            cases ht : e.tru ρ
            · exact ⟨o, Go.undef, ho, hf, .inr ⟨by rw [hg, ht], rfl⟩, putS_ok hR (Lay.le_refl _) (by simp [SV.den, ht]) hR.wr h⟩
            · obtain ⟨x, hx, hr⟩ := pureS_ok ok hR (assume_ok hR.pc ht) hv
              exact ⟨o, x, ho, hf, .inl ⟨by rw [hg, ht], hr⟩, putS_ok hR (Lay.le_refl _) (by simp only [SV.den, ht, if_true]; exact hx) hR.wr h⟩
          · cases h
theorem takeS_ok {ops : Array Oper} {listed : Array Bool} : ∀ {rs : List Nat} {i : Nat} {s' : St}, takeS cx ops listed s rs = some (i, s') → i ∈ rs ∧ tryS cx ops listed s i = some s'
  | [], _, _, h => by cases h
  | j :: r, i, s', h => by
    unfold takeS at h
    split at h
    · rename_i s2 hs; cases h; exact ⟨List.mem_cons_self, hs⟩
    · obtain ⟨h1, h2⟩ := takeS_ok h; exact ⟨List.mem_cons_of_mem _ h1, h2⟩
/-- no panic -/
def calm (Q : Exit → Act → World → Prop) : Exit → Act → World → Prop
  | .panic _, _, _ => False
  | e, a, w => Q e a w
theorem calm_out {Q : Exit → Act → World → Prop} (x : SX) (a : Act) (w : World) : calm Q x.out a w = Q x.out a w := by cases x <;> rfl
theorem anyS_ok (ok : cx.Ok ρ) (hsums : SumsOk cx ρ) {go : Code → St → Tree} (hgo : Goes cx ρ go) {Q : Exit → Act → World → Prop} {ops : Array Oper} (hns : Region.noSelect ops = true) :
    ∀ (m : Nat) (listed : Array Bool) {s : St} {β : Lay} {a : Act} {w : World}, RelS cx ρ ρ.B ρ.w0 s β a w → (anyS cx go ops m listed s).Holds ρ (Post cx ρ ρ.B ρ.w0 β a.defers (calm Q)) → wpAny cx.P .any ops (calm Q) m listed a w := by
  have hQ : ∀ c a a' w, calm Q (.panic c) a' w → calm Q (.panic c) a w := fun _ _ _ _ h => h
  intro m
  induction m with
  | zero =>
    intro listed s β a w hR h
    unfold anyS at h
    split at h
    · rename_i hr; exact wpAny_done hr (h β a w (Lay.le_refl _) hR rfl) _
    · exact h.elim
  | succ m ih =>
    intro listed s β a w hR h
    unfold anyS at h
    split at h
    · rename_i hr; exact wpAny_done hr (h β a w (Lay.le_refl _) hR rfl) _
    · rename_i rs hne
      split at h
      · rename_i i s' hi
        obtain ⟨hm, ht⟩ := takeS_ok hi
        obtain ⟨o, v, ho, hf, hy, hR'⟩ := tryS_ok ok hR ht
        exact wpAny_take ho hns hf (by simpa using hm) (fun c a w => hQ c _ _ w) hy (ih _ hR' (by rw [put_defers]; exact h))
      · refine wpAny_all rfl hne ?_
        intro i hi
        have hi' := allS_ok h i hi
        unfold wpOp
        cases ho : ops[i]? with
        | none => rw [ho] at hi'; exact hi'.elim
        | some o =>
          rw [ho] at hi'
          refine stepS_ok ok hsums hgo hR ?_ hi'
          intro s' β' a' w' hle hR' hd hh
          refine ih _ hR' ?_
          rw [hd]
          exact Tree.holds_mono (fun x s hp => Post.le hle hp) _ hh
theorem loopS_ok {go : Code → St → Tree} (hgo : Goes cx ρ go) {Q : Exit → Act → World → Prop} {b : Code} : ∀ (m : Nat) {s : St} {β : Lay} {a : Act} {w : World}, RelS cx ρ ρ.B ρ.w0 s β a w →
    (loopS go b m s).Holds ρ (Post cx ρ ρ.B ρ.w0 β a.defers Q) → Code.rounds cx.P b Q m a w
  | 0, _, _, _, _, _, h => h.elim
  | m + 1, s, β, a, w, hR, h => by
    rw [rounds_succ]
    refine hgo b s β a w _ hR (Tree.holds_mono ?_ _ (Tree.holds_bind _ h))
    intro x s1 hp β' a' w' hle hR' hd
    cases x with
    | normal =>
      refine loopS_ok hgo m hR' ?_
      rw [hd]
      exact Tree.holds_mono (fun x s hp => Post.le hle hp) _ hp
    | exit id => exact hp β' a' w' hle hR' hd
    | ret => exact hp β' a' w' hle hR' hd
theorem run_ok (ok : cx.Ok ρ) (hsums : SumsOk cx ρ) (hm : cx.P.follows .mixedOrders = true) : ∀ n, Goes cx ρ (run cx n)
  | 0 => by intro c s β a w Q hR h; exact h.elim
  | n + 1 => by
    have ih := run_ok ok hsums hm n
    intro c s β a w Q hR h
    unfold run at h
    split at h
    · exact wp_skip (h β a w (Lay.le_refl _) hR rfl)
    · rename_i id ops
      refine wp_region (opsS_ok ok hsums ih ops.toList _ ?_ hR h)
      apply List.ext_getElem?
      intro i
      by_cases hi : i < ops.size
      · simp [hi]
      · simp [hi]
    · rename_i id ops
      split at h
      · rename_i hns
        refine wp_mono (Q := calm Q) ?_ ?_
        · refine wp_region_any hm (anyS_ok ok hsums ih hns _ _ (a := a) (β := β) ⟨hR.frame, hR.size, hR.wr.drew, hR.pc⟩ ?_)
          exact Tree.holds_mono (fun x s hp β' a' w' hle hr hd => by rw [calm_out]; exact hp β' a' w' hle hr hd) _ h
        · intro e a w h; cases e <;> first | exact h | exact h.elim
      · exact h.elim
    · rename_i x y
      refine wp_seq (ih x s β a w _ hR (Tree.holds_mono ?_ _ (Tree.holds_bind _ h)))
      intro x s1 hp β' a' w' hle hR' hd
      cases x with
      | normal =>
        refine ih y s1 β' a' w' _ hR' ?_
        rw [hd]
        exact Tree.holds_mono (fun x s hp => Post.le hle hp) _ hp
      | exit id => exact hp β' a' w' hle hR' hd
      | ret => exact hp β' a' w' hle hR' hd
    · rename_i c x y
      split at h
      · rename_i e he
        have hc := bool_ok (β := β) (opc_ok hR.pc (hR.ev c) he)
        unfold fork at h
        split at h
        · rename_i hd; exact wp_cond_true (by rw [hc, dec_ok hR.pc hd]) (ih x s β a w _ hR h)
        · rename_i hd; exact wp_cond_false (by rw [hc, dec_ok hR.pc hd]) (ih y s β a w _ hR h)
        · obtain ⟨h1, h2⟩ := branch_ok hR.pc h
          cases ht : e.tru ρ
          · exact wp_cond_false (by rw [hc, ht]) (ih y _ β a w _ (with_pc hR (assume_ok hR.pc ht)) (h2 ht))
          · exact wp_cond_true (by rw [hc, ht]) (ih x _ β a w _ (with_pc hR (assume_ok hR.pc ht)) (h1 ht))
      · exact h.elim
    · rename_i id b
      refine wp_block (ih b s β a w _ hR (Tree.holds_mono ?_ _ (Tree.holds_bind _ h)))
      intro x s1 hp β' a' w' hle hR' hd
      cases x with
      | normal => exact hp β' a' w' hle hR' hd
      | ret => exact hp β' a' w' hle hR' hd
      | exit j =>
        unfold outS at hp
        show if j = id then _ else _
        simp only [] at hp
        split at hp
        · rename_i e; rw [if_pos (Nat.eq_of_beq_eq_true e)]; exact hp β' a' w' hle hR' hd
        · rename_i e; rw [if_neg (by rintro rfl; simp at e)]; exact hp β' a' w' hle hR' hd
    · rename_i b
      exact wp_loop_rounds n (loopS_ok ih n hR h)
    · exact wp_exit (h β a w (Lay.le_refl _) hR rfl)
    · exact wp_ret (h β a w (Lay.le_refl _) hR rfl)
    · exact h.elim
    · exact h.elim
    · exact h.elim
theorem settle_ok {pc : List (SE × Bool)} (h : PcOk ρ pc) {v : SV} : (settle pc v).den ρ β = v.den ρ β := by
  unfold settle
  split
  · rename_i e
    split
    · rename_i hd; have := dec_ok h hd; show some (Value.bool true) = some (Value.bool (e.tru ρ)); rw [this]
    · rename_i hd; have := dec_ok h hd; show some (Value.bool false) = some (Value.bool (e.tru ρ)); rw [this]
    · rfl
  · rfl
/-- what is asked of a function's own run -/
theorem rets_ok {fn : Func} {QR : SV → List (Nat × Blk) → Prop} {Q : SX → St → Prop} (hq : ∀ x s v, (∀ id, x ≠ .exit id) → resV cx.P fn s = some v → QR (settle s.pc v) s.H → Q x s) : ∀ t : Tree, (t.rets cx.P fn).Holds ρ QR → t.Holds ρ Q
  | .fail _, h => h
  | .all x y, h => ⟨rets_ok hq x h.1, rets_ok hq y h.2⟩
  | .br c x y, h => by
    replace h : if c.tru ρ then (x.rets cx.P fn).Holds ρ QR else (y.rets cx.P fn).Holds ρ QR := h
    show if c.tru ρ then x.Holds ρ Q else y.Holds ρ Q
    split at h
    · rename_i hc; rw [if_pos hc]; exact rets_ok hq x h
    · rename_i hc; rw [if_neg hc]; exact rets_ok hq y h
  | .leaf x s, h => by
    unfold Tree.rets at h
    show Q x s
    cases x with
    | exit id => exact h.elim
    | normal =>
      simp only [] at h
      split at h
      · rename_i v hv; exact hq _ _ v (fun _ e => by cases e) hv h
      · exact h.elim
    | ret =>
      simp only [] at h
      split at h
      · rename_i v hv; exact hq _ _ v (fun _ e => by cases e) hv h
      · exact h.elim
theorem runF_calls (ok : cx.Ok ρ) (hsums : SumsOk cx ρ) (hm : cx.P.follows .mixedOrders = true) {fuel : Nat} {f : FuncId} {args : List SV} {H : List (Nat × Blk)} {n : Nat} {vals : List Value} (hW : WR cx.P ρ ρ.B ρ.w0 β H n w) (ha : denA ρ β args = some vals)
    {R : Ending → World → Prop} (h : (runF cx fuel f args H n).Holds ρ fun v H' => ∀ β' w' n' x, β.le β' → WR cx.P ρ ρ.B ρ.w0 β' H' n' w' → v.den ρ β' = some x → R (.returned x) w') : Calls cx.P f vals.toArray w R := by
  unfold runF at h
  split at h
  · rename_i fn hfun
    split at h
    · rename_i c hbody
      split at h
      · rename_i hle
        have hle := Nat.le_of_ble_eq_true hle
        refine calls_of_wp hfun hbody ?_
        refine run_ok ok hsums hm fuel c _ β _ w _ (enter_ok (pc := []) hW (by intro c hc; cases hc) ha hle) ?_
        refine rets_ok ?_ _ h
        intro x s v hx hv hR β' a' w' hle hr hd
        obtain ⟨y, hy, hrun⟩ := resV_ok hr hv
        have := hR β' w' s.n y hle hr.wr (by rw [settle_ok hr.pc]; exact hy)
        cases x with
        | exit id => exact absurd rfl (hx id)
        | normal => exact ⟨hd, y, hrun, this⟩
        | ret => exact ⟨hd, y, hrun, this⟩
      · exact h.elim
    · exact h.elim
  · exact h.elim
/-- of a run whose every end is the truth -/
def allTrue : RTree → Bool
  | .ret v _ => match v with
    | .p (.c (.bool .tt)) => true
    | _ => false
  | .br _ a b => match allTrue a with
    | true => allTrue b
    | false => false
  | .fail _ => false
  | .all a b => match allTrue a with
    | true => allTrue b
    | false => false
theorem allTrue_ok {QR : SV → List (Nat × Blk) → Prop} (hq : ∀ H, QR (.p (.c (.bool .tt))) H) : ∀ {t : RTree}, allTrue t = true → t.Holds ρ QR
  | .ret v H, h => by
    unfold allTrue at h
    split at h
    · exact hq H
    · cases h
  | .br c a b, h => by
    unfold allTrue at h
    split at h
    · rename_i ha
      show if c.tru ρ then a.Holds ρ QR else b.Holds ρ QR
      split
      · exact allTrue_ok hq ha
      · exact allTrue_ok hq h
    · cases h
  | .fail _, h => by cases h
  | .all a b, h => by
    unfold allTrue at h
    split at h
    · rename_i ha; exact ⟨allTrue_ok hq ha, allTrue_ok hq h⟩
    · cases h
/-- no block, nothing laid out -/
def noLay : Lay := fun _ => none
theorem WR.start (P : Program) (ρ : Env) (w : World) (n : Nat) : WR P ρ w.heap.size w noLay [] n w :=
  ⟨Below.refl _ _, Nat.le_refl _, fun _ _ => rfl, (by intro b c k k' x y h; cases h), (by intro b k h; cases h)⟩
/-- a function whose arguments are values: what it hands back -/
theorem runF_ret (ok : cx.Ok ρ) (hsums : SumsOk cx ρ) (hm : cx.P.follows .mixedOrders = true) (hB : ρ.B = w.heap.size) (hw : ρ.w0 = w) {fuel : Nat} {f : FuncId} {args : List SV} {vals : List Value} (ha : denA ρ noLay args = some vals) {x : Value}
    (h : (runF cx fuel f args [] 0).Holds ρ fun v _ => ∀ β y, v.den ρ β = some y → y = x) : Calls cx.P f vals.toArray w (Ret x w) := by
  refine runF_calls (fuel := fuel) (args := args) ok hsums hm (β := noLay) (H := []) (n := 0) (by rw [hB, hw]; exact WR.start cx.P ρ w 0) ha ?_
  have : ∀ {t : RTree}, (t.Holds ρ fun v _ => ∀ β y, v.den ρ β = some y → y = x) → t.Holds ρ fun v H' => ∀ β' w' n' x', noLay.le β' → WR cx.P ρ ρ.B ρ.w0 β' H' n' w' → v.den ρ β' = some x' → Ret x w (.returned x') w' := by
    intro t
    induction t with
    | ret v H =>
      intro h β' w' n' x' _ hW hv
      have hx := h β' x' hv
      subst hx
      have := hW.below
      rw [hB, hw] at this
      exact ⟨rfl, this⟩
    | br c a b iha ihb =>
      intro h
      replace h : if c.tru ρ then _ else _ := h
      show if c.tru ρ then _ else _
      split at h
      · rename_i hc; rw [if_pos hc]; exact iha h
      · rename_i hc; rw [if_neg hc]; exact ihb h
    | fail _ => exact id
    | all a b iha ihb => exact fun h => ⟨iha h.1, ihb h.2⟩
  exact this h
theorem runF_true (ok : cx.Ok ρ) (hsums : SumsOk cx ρ) (hm : cx.P.follows .mixedOrders = true) (hB : ρ.B = w.heap.size) (hw : ρ.w0 = w) {fuel : Nat} {f : FuncId} {args : List SV} {vals : List Value} (ha : denA ρ noLay args = some vals)
    (h : allTrue (runF cx fuel f args [] 0) = true) : Calls cx.P f vals.toArray w (Ret (.bool true) w) :=
  runF_ret ok hsums hm hB hw ha (allTrue_ok (fun _ _ _ hy => (Option.some.inj hy).symm) h)
/-- of no letters -/
def env0 (w : World) : Env := ⟨fun _ => 0, fun _ => false, fun _ => .nilFunc, fun _ _ _ _ _ => 0, fun _ _ _ _ _ => false, w.heap.size, w, fun _ => (none, 0), fun _ => ⟨#[]⟩⟩
end
end Go.Proofs.Ytddfafapahnaaaa.Sym
