/- The executor's runs are right; a function's contract out of its run. -/
import Derived.Test.YtopfaapcekiojaaSymI
import Derived.Test.YtopfaapcekiojaaSymT
import Derived.RangeFuncNested
namespace Go.Proofs.Ytopfaapcekiojaa.Sym
open Go Go.RowKit Go.Proofs.Ytopfaapcekiojaa

section
variable {cx : Ctx} {ρ : Env} {B : Nat} {w0 w : World} {D0 : List Nat} {ys : List (Nat × Rec)} {L : Lst} {β : Lay} {s : St} {a : Act} {o : Oper}
theorem subF_ok {F1 F2 : List (Nat × SV)} : ∀ {l : List (Nat × SV)}, subF F1 F2 l = true → ∀ t v, lk l t = some v → ∀ u, lk F2 t = some u → lk F1 t = some u
  | [], _, t, v, h, _, _ => by cases h
  | (t', v') :: r, h, t, v, hl, u, hu => by
    simp only [subF, Bool.and_eq_true] at h
    rw [lk_cons] at hl
    by_cases e : t = t'
    · subst e
      have h1 := h.1
      rw [hu] at h1
      split at h1
      · rename_i x y hx hy
        cases hy
        rw [hx, SV.same_eq h1]
      · cases h1
    · rw [if_neg e] at hl
      exact subF_ok h.2 t v hl u hu
theorem sub_ok {s1 s2 : St} (h : s1.sub s2 = true) (hR : RelS cx ρ B w0 D0 ys L s1 β a w) : RelS cx ρ B w0 D0 ys L s2 β a w := by
  simp only [St.sub, Bool.and_eq_true] at h
  obtain ⟨h1, h2, h3, h4, h5, h6⟩ := h
  have h2 := lSame_eq hSame_eq h2
  have h3 := Nat.eq_of_beq_eq_true h3
  have h4 := Nat.eq_of_beq_eq_true h4
  have h6 := lSame_eq lpSame_eq h6
  refine ⟨fun t v hv => hR.frame t v (subF_ok h1 t v hv v hv), ?_, ?_, subPc_ok hR.pc h5, ?_, hR.marks⟩
  · rw [← h4]; exact hR.size
  · rw [← h2, ← h3]; exact hR.wr
  · rw [← h6]; exact hR.loops
theorem covers_ok {Q : Exit → Act → World → Prop} {s1 : St} : ∀ {t : Tree}, covers s1 t = true → t.Holds ρ (Post cx ρ B w0 D0 ys β Q) → Post cx ρ B w0 D0 ys β Q .normal s1
  | .leaf .normal s2, hc, h => fun β' L' a' w' hle hr => h β' L' a' w' hle (sub_ok hc hr)
  | .all a b, hc, h => by
    unfold covers at hc
    split at hc
    · rename_i ha; exact covers_ok ha h.1
    · exact covers_ok hc h.2
theorem joinS_ok {Q : Exit → Act → World → Prop} : ∀ {x y : Tree}, (joinS x y).Holds ρ (Post cx ρ B w0 D0 ys β Q) → x.Holds ρ (Post cx ρ B w0 D0 ys β Q) ∧ y.Holds ρ (Post cx ρ B w0 D0 ys β Q)
  | .leaf .normal s1, y, h => by
    unfold joinS at h
    split at h
    · rename_i hc; exact ⟨covers_ok hc h, h⟩
    · exact h
  | .all a1 a2, y, h => by
    unfold joinS at h
    obtain ⟨h1, h2⟩ := joinS_ok h
    obtain ⟨h3, h4⟩ := joinS_ok h2
    exact ⟨⟨h1, h3⟩, h4⟩
  | .leaf (.exit _) _, y, h => h
  | .leaf .ret _, y, h => h
  | .br _ _ _, y, h => h
  | .fail _, y, h => h
theorem allS_ok {Q : Exit → Act → World → Prop} {t : Nat → Tree} : ∀ {rs : List Nat}, (allS t rs).Holds ρ (Post cx ρ B w0 D0 ys β Q) → ∀ i ∈ rs, (t i).Holds ρ (Post cx ρ B w0 D0 ys β Q)
  | [], _, i, hi => by cases hi
  | [j], h, i, hi => by
    have : i = j := by simpa using hi
    subst this
    exact h
  | j :: k :: r, h, i, hi => by
    obtain ⟨h1, h2⟩ := joinS_ok h
    rcases List.mem_cons.1 hi with rfl | hi
    · exact h1
    · exact allS_ok h2 i hi
/-- the held blocks are as they were -/
def Held (cx : Ctx) (ρ : Env) (β : Lay) (H0 : List (Nat × Blk)) (w : World) : Prop := ∀ b k, lk H0 b = some k → BlkAt cx.P ρ ρ.B β w b k
theorem pureS_ok (ok : cx.Ok ρ) (hR : RelS cx ρ ρ.B ρ.w0 D0 ys L s β a w) {H0 : List (Nat × Blk)} {β0 : Lay} (hle : β0.le β) (hH : ∀ b k, lk H0 b = some k → lk s.H b = some k) {pc : PC} (hpc : PcOk ρ pc) {v : SV} (hS : Held cx ρ β0 H0 w) (h : pureS cx s H0 pc o = some v) :
    ∃ x, v.den ρ β = some x ∧ ∀ w, Held cx ρ β0 H0 w → (execOp a.eval o).run cx.P w = .ok (.value x) w := by
  unfold pureS at h
  have hl : ¬ Lays o ∧ ∃ H n, opS cx { s with H := H0 } pc o = some (v, H, n) := by
    split at h
    · cases h
    · rename_i hl
      split at h
      · rename_i v' H n hop
        cases h
        refine ⟨?_, H, n, hop⟩
        unfold Lays
        intro e
        rw [e] at hl
        simp at hl
      · cases h
  obtain ⟨hnl, H, n, hop⟩ := hl
  have hall : ∀ w, Held cx ρ β0 H0 w → ∃ x, v.den ρ β = some x ∧ (execOp a.eval o).run cx.P w = .ok (.value x) w := by
    intro w hw
    have hW : WR cx.P ρ 0 w ⟨[], []⟩ β H0 s.n w := ⟨Below.refl _ _, Nat.zero_le _, hR.wr.fresh, (fun b c k k' x y hb hc hx hy e => hR.wr.inj b c k k' x y (hH b k hb) (hH c k' hc) hx hy e), (fun b k hb => ((hw b k hb).le hle).low (Nat.zero_le _)), (by intro D h; cases h), (by intro p h; cases h)⟩
    have hev : ∀ y ∈ o.op.operands.toList, EvOk ρ β { s with H := H0 } a.eval y := fun y _ => hR.ev y
    obtain ⟨β', w', x, hle, hx, hW', _, hl⟩ := opS_ok (s := { s with H := H0 }) ok hpc hW hev hop
    rcases hl with ⟨hr, rfl, rfl⟩ | hl
    · exact ⟨x, hx, hr⟩
    · exact absurd hl hnl
  obtain ⟨x, hx, _⟩ := hall w hS
  refine ⟨x, hx, fun w' hw' => ?_⟩
  obtain ⟨y, hy, hr⟩ := hall w' hw'
  rw [hx] at hy
  cases hy
  exact hr
theorem tryS_ok (ok : cx.Ok ρ) {ops : Array Oper} {listed : Array Bool} (hR : RelS cx ρ ρ.B ρ.w0 D0 ys L s β a w) {H0 : List (Nat × Blk)} {β0 : Lay} (hle : β0.le β) (hH : ∀ b k, lk H0 b = some k → lk s.H b = some k) (hS : Held cx ρ β0 H0 w) {i : Nat} {s' : St} (h : tryS cx H0 ops listed s i = some s') :
    ∃ o v, ops[i]? = some o ∧ Region.free .any ops listed i = true ∧ YieldsS cx.P ops (Held cx ρ β0 H0) o v a ∧ RelS cx ρ ρ.B ρ.w0 D0 ys L s' β (a.put o.dst v) w ∧ s'.H = s.H := by
  have hput : ∀ dst v, putS s dst v s.H s.n = some s' → s'.H = s.H := by
    intro dst v hp
    rw [putS_def] at hp
    cases dst with
    | none => cases hp; rfl
    | some d =>
      simp only [] at hp
      split at hp
      · cases hp; rfl
      · cases hp
  unfold tryS at h
  split at h
  · cases h
  · rename_i o ho
    split at h
    · cases h
    · rename_i hf
      simp only [Bool.and_eq_true] at hf
      obtain ⟨hnc, hf⟩ := hf
      split at h
      · cases h
      · rename_i e he
        have hg := guardS_ok hR he
        split at h
        · rename_i hd
          exact ⟨o, Go.undef, ho, hf, .inr ⟨by rw [hg, decT_ok hR.pc hd], rfl⟩, putS_ok hR (Lay.le_refl _) rfl hR.wr h, hput _ _ h⟩
        · rename_i hd
          split at h
          · rename_i v hv
            obtain ⟨x, hx, hr⟩ := pureS_ok ok hR hle hH hR.pc hS hv
            exact ⟨o, x, ho, hf, .inl ⟨by rw [hg, decT_ok hR.pc hd], hr⟩, putS_ok hR (Lay.le_refl _) hx hR.wr h, hput _ _ h⟩
          · cases h
        · split at h
          · rename_i v hv
            cases ht : e.tru ρ
            · exact ⟨o, Go.undef, ho, hf, .inr ⟨by rw [hg, ht], rfl⟩, putS_ok hR (Lay.le_refl _) (by simp [SV.den, ht]) hR.wr h, hput _ _ h⟩
            · obtain ⟨x, hx, hr⟩ := pureS_ok ok hR hle hH (assume_ok hR.pc ht) hS hv
              exact ⟨o, x, ho, hf, .inl ⟨by rw [hg, ht], hr⟩, putS_ok hR (Lay.le_refl _) (by simp only [SV.den, ht, if_true]; exact hx) hR.wr h, hput _ _ h⟩
          · cases h
theorem takeS_ok {ops : Array Oper} {listed : Array Bool} {H0 : List (Nat × Blk)} : ∀ {rs : List Nat} {i : Nat} {s' : St}, takeS cx H0 ops listed s rs = some (i, s') → i ∈ rs ∧ tryS cx H0 ops listed s i = some s'
  | [], _, _, h => by cases h
  | j :: r, i, s', h => by
    unfold takeS at h
    split at h
    · rename_i s2 hs; cases h; exact ⟨List.mem_cons_self, hs⟩
    · obtain ⟨h1, h2⟩ := takeS_ok h; exact ⟨List.mem_cons_of_mem _ h1, h2⟩
theorem broken_ok {H : List (Nat × Blk)} : ∀ {H0 : List (Nat × Blk)}, broken H0 H = none → ∀ b k, lk H0 b = some k → lk H b = some k
  | [], _, b, k, h => by cases h
  | (c, kc) :: r, hb, b, k, h => by
    unfold broken at hb
    split at hb
    · rename_i k' hk'
      split at hb
      · rename_i hs
        rw [lk_cons] at h
        by_cases e : b = c
        · rw [if_pos e] at h
          cases h
          subst e
          rw [hk', Blk.same_eq hs]
        · rw [if_neg e] at h
          exact broken_ok hb b k h
      · cases hb
    · cases hb
theorem plainOps_ok {ops : Array Oper} (h : plainOps ops = true) : ∀ (j : Nat) (o : Oper), ops[j]? = some o → (∀ c, o.op ≠ .defer c) ∧ ∀ cs b, o.op ≠ .select cs b := by
  intro j o ho
  have := Array.all_eq_true_iff_forall_mem.1 h o (Array.mem_of_getElem? ho)
  refine ⟨fun c e => ?_, fun cs b e => ?_⟩
  · rw [e] at this; cases this
  · rw [e] at this; cases this
/-- no panic -/
def calm (Q : Exit → Act → World → Prop) : Exit → Act → World → Prop
  | .panic _, _, _ => False
  | e, a, w => Q e a w
theorem calm_out {Q : Exit → Act → World → Prop} (x : SX) (a : Act) (w : World) : calm Q x.out a w = Q x.out a w := by cases x <;> rfl
theorem anyS_ok (ok : cx.Ok ρ) (hsums : SumsOk cx ρ) {go : Bool → Code → St → Tree} (hgo : ∀ inr, Goes cx ρ ys inr (go inr)) {inr : Bool} {F : Fence} (hF : FOk inr F) {n : Nat} {Q : Exit → Act → World → Prop} {ops : Array Oper} (hpl : plainOps ops = true)
    {H0 : List (Nat × Blk)} {β0 : Lay} {wh : World} (h0 : Held cx ρ β0 H0 wh) :
    ∀ (m : Nat) (listed : Array Bool) {L : Lst} {s : St} {β : Lay} {a : Act} {w : World}, β0.le β → (∀ b k, lk H0 b = some k → lk s.H b = some k) → RelS cx ρ ρ.B ρ.w0 D0 ys L s β a w → (anyS cx ys H0 go ops m listed s).Holds ρ (Post cx ρ ρ.B ρ.w0 D0 ys β (calm Q)) →
      anyH F n cx.P ops (calm Q) (Held cx ρ β0 H0) m listed a w := by
  have hQ : ∀ c a a' w, calm Q (.panic c) a' w → calm Q (.panic c) a w := fun _ _ _ _ h => h
  have hplain := plainOps_ok hpl
  have hheld : ∀ {L : Lst} {s : St} {β : Lay} {a : Act} {w : World}, β0.le β → (∀ b k, lk H0 b = some k → lk s.H b = some k) → RelS cx ρ ρ.B ρ.w0 D0 ys L s β a w → Held cx ρ β0 H0 w :=
    fun hle hH hR b k hb => (h0 b k hb).back hle (hR.wr.blk b k (hH b k hb))
  intro m
  induction m with
  | zero =>
    intro listed L s β a w hle hH hR h
    unfold anyS at h
    split at h
    · rename_i hr; exact anyH_done hr (hheld hle hH hR) (h β L a w (Lay.le_refl _) hR) _
    · exact h.elim
  | succ m ih =>
    intro listed L s β a w hle hH hR h
    unfold anyS at h
    split at h
    · rename_i hr; exact anyH_done hr (hheld hle hH hR) (h β L a w (Lay.le_refl _) hR) _
    · rename_i rs hne
      split at h
      · rename_i i s' hi
        obtain ⟨hm, ht⟩ := takeS_ok hi
        obtain ⟨o, v, ho, hf, hy, hR', hH'⟩ := tryS_ok ok hR hle hH (hheld hle hH hR) ht
        exact anyH_first (fun f => hF.fn f) ho hplain hQ m listed a w (Region.free_spec ho hf) hm hy (hheld hle hH hR) (ih _ hle (by rw [hH']; exact hH) hR' h)
      · refine ⟨hheld hle hH hR, fun hr => absurd hr (by intro e; exact hne e), ?_⟩
        intro i hi
        have hi' := allS_ok h i hi
        unfold wpOpIn
        cases ho : ops[i]? with
        | none => rw [ho] at hi'; exact hi'.elim
        | some o =>
          rw [ho] at hi'
          refine stepS_ok ok hsums hgo hF hR ?_ hi'
          intro s' β' L' a' w' hle' hR' hh
          unfold heldS at hh
          split at hh
          · rename_i hbr
            exact ih _ (Lay.le_trans hle hle') (broken_ok hbr) hR' (Tree.holds_mono (fun x s hp => Post.le hle' hp) _ hh)
          · exact hh.elim
theorem holdS_ok {t : List (Nat × Blk) → Tree} {Q : SX → St → Prop} {H : List (Nat × Blk)} : ∀ (m : Nat) (H0 : List (Nat × Blk)), (∀ b k, lk H0 b = some k → lk H b = some k) → (holdS t m H0).Holds ρ Q → ∃ H1, (∀ b k, lk H1 b = some k → lk H b = some k) ∧ (t H1).Holds ρ Q
  | 0, _, _, h => ⟨[], (by intro b k h; cases h), h⟩
  | m + 1, H0, hH, h => by
    unfold holdS at h
    split at h
    · exact ⟨H0, hH, h⟩
    · exact holdS_ok m _ (fun b k hb => by
        rw [lk_delH] at hb
        split at hb
        · cases hb
        · exact hH b k hb) h
theorem loopS_ok {inr : Bool} {go : Code → St → Tree} (hgo : Goes cx ρ ys inr go) {F : Fence} (hF : FOk inr F) {n : Nat} {Q : Exit → Act → World → Prop} {b : Code} : ∀ (m : Nat) {L : Lst} {s : St} {β : Lay} {a : Act} {w : World}, RelS cx ρ ρ.B ρ.w0 D0 ys L s β a w →
    (loopS go b m s).Holds ρ (Post cx ρ ρ.B ρ.w0 D0 ys β Q) → Code.roundsIn F n cx.P b Q m a w
  | 0, _, _, _, _, _, _, h => h.elim
  | m + 1, L, s, β, a, w, hR, h => by
    rw [roundsIn_succ]
    refine hgo F n hF D0 L b s β a w _ hR (Tree.holds_mono ?_ _ (Tree.holds_bind _ h))
    intro x s1 hp β' L' a' w' hle hR'
    cases x with
    | normal => exact loopS_ok hgo hF m hR' (Tree.holds_mono (fun x s hp => Post.le hle hp) _ hp)
    | exit id => exact hp β' L' a' w' hle hR'
    | ret => exact hp β' L' a' w' hle hR'
/-- a range over a function -/
theorem rangeS_ok {go : List (Nat × Rec) → Code → St → Tree} (hgo : ∀ ys, Goes cx ρ ys false (go ys)) {n : Nat} {Q : Exit → Act → World → Prop} {g : Operand} {ps : Array Tmp} {assign body : Code} (hR : RelS cx ρ ρ.B ρ.w0 D0 ys L s β a w)
    (h : (rangeS cx ys go g ps assign body s).Holds ρ (Post cx ρ ρ.B ρ.w0 D0 ys β Q)) : (Code.rangeFunc g ps assign body).wpIn Fence.wide n cx.P Q a w := by
  unfold rangeS at h
  split at h
  · rename_i f x y hfn
    obtain ⟨p, q, hp, hq, hfv⟩ := fn_ok (opc_ok hR.pc (hR.ev g) hfn)
    split at h
    · rename_i fn hfun
      split at h
      · exact h.elim
      · rename_i hname
        split at h
        · rename_i c hbody
          split at h
          · rename_i hle
            have hle := Nat.le_of_ble_eq_true hle
            refine wpIn_rangeFunc ?_
            intro fn0 _
            obtain ⟨lo, hlo⟩ : ∃ lo : Loop, lo = { state := .ready, pending := none, fn := fn0, tmps := a.tmps, params := ps, assign := assign, body := body, defers := w.heap.size } := ⟨_, rfl⟩
            have hname' : fn.name ≠ "runtime.NumGoroutine" := by simpa using hname
            have hnew : β.put s.n (w.heap.size + 1, 0) s.n = some (w.heap.size + 1, 0) := by simp [Lay.put]
            have hlep := Lay.le_put hR.wr.fresh (w.heap.size + 1, 0)
            have hargs : denA ρ (β.put s.n (w.heap.size + 1, 0)) (ptrSV x ++ (SV.p (.c (.yld s.n)) :: ptrSV y)) = some (p ++ (Value.func (.yield (w.heap.size + 1)) #[] #[] :: q)) := by
              refine denA_append (ptrSV_ok (ptrs_le hlep hp)) ?_
              unfold denA
              simp only [SV.den, SP.den, SC.den, hnew, Option.map_some, ptrSV_ok (ρ := ρ) (ptrs_le hlep hq)]
            have hltl : ∀ p ∈ L.ls, p.1 < w.heap.size := fun p hp => heap_lt (hR.wr.ls p hp).2
            have hltd : ∀ D ∈ L.ds, D < w.heap.size := fun D hD => heap_lt (hR.wr.ds D hD).2
            have hold : ∀ b r, lk ys b = some r → b ≠ s.n := by
              rintro b r hb rfl
              obtain ⟨l, c, _, _, h1, _⟩ := hR.loops.each _ r hb
              rw [hR.wr.fresh s.n (Nat.le_refl _)] at h1
              cases h1
            have hW1 : WR cx.P ρ ρ.B ρ.w0 ⟨w.heap.size :: L.ds, (w.heap.size + 1, lo) :: L.ls⟩ (β.put s.n (w.heap.size + 1, 0)) s.H (s.n + 1) ((w.alloc (.deferred (some []))).alloc (.loop lo)) := by
              refine WR.number (WR.newObj (L := ⟨w.heap.size :: L.ds, L.ls⟩) (o := .loop lo) (L' := ⟨w.heap.size :: L.ds, (w.heap.size + 1, lo) :: L.ls⟩) (WR.newObj hR.wr (o := .deferred (some [])) (L' := ⟨w.heap.size :: L.ds, L.ls⟩) ?_ (fun p hp => .inl hp)) (fun D hD => .inl hD) ?_) _
              · intro D hD
                rcases List.mem_cons.1 hD with rfl | hD
                · exact .inr ⟨rfl, rfl⟩
                · exact .inl hD
              · intro p hp
                rcases List.mem_cons.1 hp with rfl | hp
                · exact .inr ⟨by simp, rfl⟩
                · exact .inl hp
            refine ⟨w.heap.size + 1, [mark w.heap.size], (w.alloc (.deferred (some []))).alloc (.loop lo), { target := .fn (.func f) q.toArray, args := p.toArray ++ #[.func (.yield (w.heap.size + 1)) #[] #[]] }, (w.alloc (.deferred (some []))).alloc (.loop lo), f,
              (p ++ (Value.func (.yield (w.heap.size + 1)) #[] #[] :: q)).toArray, (w.alloc (.deferred (some []))).alloc (.loop lo), ?_, ?_, fun _ _ => trivial, ?_, fun e => (by cases e), ?_⟩
            · rw [hlo]; exact run_enterLoop_outer _ _ _ _ _
            · simp only [resolve, hfv]
              simp [go_sem]
            · have e : p.toArray ++ #[Value.func (.yield (w.heap.size + 1)) #[] #[]] ++ q.toArray = (p ++ (Value.func (.yield (w.heap.size + 1)) #[] #[] :: q)).toArray := by apply Array.ext'; simp
              simp only [invoke, callFunc]
              rw [← e]
              simp [hfun, hname', hbody]
            · refine callsIn_of_wp_marks hfun hbody trivial ?_
              refine hgo _ Fence.wide (n - 1) rfl _ _ c _ _ _ _ _ (enter_ok (ys := (s.n, { F := s.F, nt := s.nt, ps := ps.toList, assign := assign, body := body }) :: ys) (lp := (s.n, .ready) :: s.lp) hW1 hR.pc ?_ hargs hle) ?_
              · refine ⟨fun b r hb => ?_, fun b b' r r' u v hb hb' hu hv e => ?_⟩
                · rw [lk_cons] at hb
                  by_cases eb : b = s.n
                  · rw [if_pos eb] at hb
                    cases hb
                    subst eb
                    refine ⟨_, _, lo, .ready, hnew, List.mem_cons_self, by rw [lk_cons, if_pos rfl], ?_⟩
                    rw [hlo]
                    exact ⟨rfl, rfl, rfl, hR.size, fun t v hv => by obtain ⟨u, hu, ht⟩ := hR.frame t v hv; exact ⟨u, SV.den_le hlep hu, ht⟩, rfl, rfl⟩
                  · rw [if_neg eb] at hb
                    obtain ⟨l, c, lo', st, h1, h2, h3, h4⟩ := hR.loops.each b r hb
                    exact ⟨l, c, lo', st, hlep _ _ h1, List.mem_cons_of_mem _ h2, by rw [lk_cons, if_neg eb]; exact h3, h4.le hlep⟩
                · rw [lk_cons] at hb hb'
                  have away : ∀ b r u, lk ys b = some r → β.put s.n (w.heap.size + 1, 0) b = some u → β b = some u ∧ u.1 < w.heap.size := by
                    intro b r u hb hu
                    obtain ⟨l, c, lo', st, h1, h2, _⟩ := hR.loops.each b r hb
                    rw [hlep _ _ h1] at hu
                    cases hu
                    exact ⟨h1, hltl _ h2⟩
                  by_cases eb : b = s.n <;> by_cases ec : b' = s.n
                  · omega
                  · rw [if_neg ec] at hb'
                    obtain ⟨_, h1⟩ := away _ _ _ hb' hv
                    subst eb
                    rw [hnew] at hu; cases hu
                    have e : w.heap.size + 1 = v.1 := e
                    omega
                  · rw [if_neg eb] at hb
                    obtain ⟨_, h1⟩ := away _ _ _ hb hu
                    subst ec
                    rw [hnew] at hv; cases hv
                    have e : u.1 = w.heap.size + 1 := e
                    omega
                  · rw [if_neg eb] at hb; rw [if_neg ec] at hb'
                    exact hR.loops.inj b b' r r' u v hb hb' (away _ _ _ hb hu).1 (away _ _ _ hb' hv).1 e
              · refine Tree.holds_mono ?_ _ (Tree.holds_bind _ h)
                intro xx s1 hret β2 L2 a2 w2 hle2 hR2
                have hre : ∀ v, resV cx.P fn s1 = some v → (match lk s1.lp s.n with
                    | some .ready => Tree.leaf .normal { s with pc := s1.pc, lp := s1.lp, H := gcH s.n .undef s1.H, n := s1.n }
                    | some .ret => .leaf .ret { s with pc := s1.pc, lp := s1.lp, H := gcH s.n .undef s1.H, n := s1.n }
                    | some (.out id) => .leaf (.exit id) { s with pc := s1.pc, lp := s1.lp, H := gcH s.n .undef s1.H, n := s1.n }
                    | _ => .fail 52).Holds ρ (Post cx ρ ρ.B ρ.w0 D0 ys β Q) →
                    LeavesInM Fence.wide (n - 1) cx.P fn a2.tmps (rangePost Fence.wide n cx.P (w.heap.size + 1) Q { a with defers := [mark w.heap.size] ++ a.defers }) a2.defers .returning w2 := by
                  intro v hv hend
                  obtain ⟨ds, h1, h2, h3⟩ := hR2.marks.own
                  rw [h1]
                  refine leaves_ok hv hR2.frame (fun w3 xv _ hW3 => ?_) ds L2 w2 h2 h3 hR2.marks.old rfl hR2.wr
                  obtain ⟨l2, c2, lo2, st2, hβ2, hlo2, hst2, hli2⟩ := hR2.loops.each s.n _ (by rw [lk_cons, if_pos rfl])
                  rw [hle2 _ _ hnew] at hβ2
                  cases hβ2
                  obtain ⟨hB2, hheap2⟩ := hW3.ls _ hlo2
                  have hle := Lay.le_trans hlep hle2
                  have hnb : st2 ≠ .busy → ∃ w4, (Instr.endLoop (w.heap.size + 1)).run cx.P w3 = .ok st2.pend w4 ∧
                      RelS cx ρ ρ.B ρ.w0 D0 ys ⟨w.heap.size :: L.ds, L2.ls.filter (fun p => p.1 != w.heap.size + 1)⟩ { s with pc := s1.pc, lp := s1.lp, H := gcH s.n .undef s1.H, n := s1.n } β2 { a with defers := [mark w.heap.size] ++ a.defers } w4 := by
                    intro hb
                    have hend := run_endLoop (P := cx.P) hheap2 (by rw [hli2.state]; intro e; cases st2 <;> first | exact hb rfl | cases e)
                    rw [hli2.pend] at hend
                    refine ⟨_, hend, fun t v hv => by obtain ⟨u, hu, ht⟩ := hR.frame t v hv; exact ⟨u, SV.den_le hle hu, ht⟩, hR.size, ?_, hR2.pc, ⟨fun b r hb' => ?_, ?_⟩, ?_⟩
                    · refine (hW3.putObj (L' := ⟨w.heap.size :: L.ds, L2.ls.filter (fun p => p.1 != w.heap.size + 1)⟩) hheap2 (by intro _ _ _ e; cases e) hB2 (fun D hD => ⟨hD, ?_⟩) (fun p hp => ?_)).less fun b k h => keepH_lk _ _ b k _ h
                      · rintro rfl
                        have := (hW3.ds _ hD).2
                        rw [hheap2] at this
                        cases this
                      · obtain ⟨q1, q2⟩ := List.mem_filter.1 hp
                        exact .inl ⟨q1, by simpa using q2⟩
                    · have hbn := hold b r hb'
                      have hb2 : lk ((s.n, { F := s.F, nt := s.nt, ps := ps.toList, assign := assign, body := body }) :: ys) b = some r := by rw [lk_cons, if_neg hbn]; exact hb'
                      obtain ⟨l3, c3, lo3, st3, k1, k2, k3, k4⟩ := hR2.loops.each b r hb2
                      refine ⟨l3, c3, lo3, st3, k1, List.mem_filter.2 ⟨k2, ?_⟩, k3, k4⟩
                      have : l3 ≠ w.heap.size + 1 := fun e => hbn (hR2.loops.inj b s.n r _ _ _ hb2 (by rw [lk_cons, if_pos rfl]) k1 (hle2 _ _ hnew) e)
                      simpa using this
                    · intro b b' r r' u v hb1 hb2 hu hv e
                      exact hR2.loops.inj b b' r r' u v (by rw [lk_cons, if_neg (hold b r hb1)]; exact hb1) (by rw [lk_cons, if_neg (hold b' r' hb2)]; exact hb2) hu hv e
                    · obtain ⟨es, e1, e2, e3⟩ := hR.marks.own
                      refine ⟨⟨w.heap.size :: es, by rw [e1]; rfl, List.nodup_cons.2 ⟨fun hm => ?_, e2⟩, fun D hD => ?_⟩, fun D hD => List.mem_cons_of_mem _ (hR.marks.old D hD)⟩
                      · exact absurd (hltd _ (e3 _ hm).1) (Nat.lt_irrefl _)
                      · rcases List.mem_cons.1 hD with rfl | hD
                        · exact ⟨List.mem_cons_self, fun hm => absurd (hltd _ (hR.marks.old _ hm)) (Nat.lt_irrefl _)⟩
                        · exact ⟨List.mem_cons_of_mem _ (e3 D hD).1, (e3 D hD).2⟩
                  rw [hst2] at hend
                  cases st2 with
                  | busy => exact hend.elim
                  | ready =>
                    obtain ⟨w4, he, hr4⟩ := hnb (by intro e; cases e)
                    exact ⟨_, w4, he, hend β2 _ _ w4 hle hr4⟩
                  | ret =>
                    obtain ⟨w4, he, hr4⟩ := hnb (by intro e; cases e)
                    exact ⟨_, w4, he, wpIn_ret (hend β2 _ _ w4 hle hr4)⟩
                  | out id =>
                    obtain ⟨w4, he, hr4⟩ := hnb (by intro e; cases e)
                    exact ⟨_, w4, he, wpIn_exit (hend β2 _ _ w4 hle hr4)⟩
                unfold rangeEnd at hret
                cases xx with
                | exit id => exact hret.elim
                | normal =>
                  simp only [] at hret
                  split at hret
                  · rename_i v hv; exact hre v hv hret
                  · exact hret.elim
                | ret =>
                  simp only [] at hret
                  split at hret
                  · rename_i v hv; exact hre v hv hret
                  · exact hret.elim
          · exact h.elim
        · exact h.elim
    · exact h.elim
  · exact h.elim
theorem run_ok (ok : cx.Ok ρ) (hsums : SumsOk cx ρ) (hm : cx.P.follows .mixedOrders = true) : ∀ n ys inr, Goes cx ρ ys inr (run cx n ys inr)
  | 0, _, _ => by intro F m hF D0 L c s β a w Q hR h; exact h.elim
  | n + 1, ys, inr => by
    have ih := run_ok ok hsums hm n ys inr
    have ihc := run_ok ok hsums hm n ys
    have ihy := fun ys => run_ok ok hsums hm n ys false
    intro F m hF D0 L c s β a w Q hR h
    unfold run at h
    split at h
    · exact wpIn_skip (h β L a w (Lay.le_refl _) hR)
    · rename_i id ops
      refine wpIn_region (opsS_ok ok hsums ihc hF ops.toList _ ?_ hR h)
      apply List.ext_getElem?
      intro i
      by_cases hi : i < ops.size
      · simp [hi]
      · simp [hi]
    · rename_i id ops
      split at h
      · rename_i hns
        refine wpIn_mono (Q := calm Q) ?_ ?_
        · obtain ⟨H1, hH1, h1⟩ := holdS_ok (H := s.H) _ _ (by
            intro b k hb
            unfold heldAt at hb
            split at hb
            · exact hb
            · cases hb) h
          refine wpIn_region_any hm (anyH_any _ _ _ _ (anyS_ok ok hsums ihc hF hns (H0 := H1) (β0 := β) (wh := w.drew) (fun b k hb => hR.wr.drew.blk b k (hH1 b k hb)) _ _ (a := a) (β := β) (L := L) (Lay.le_refl _) hH1 (⟨hR.frame, hR.size, hR.wr.drew, hR.pc, hR.loops, hR.marks⟩ : RelS cx ρ ρ.B ρ.w0 D0 ys L s β a w.drew) ?_))
          exact Tree.holds_mono (fun x s hp β' L' a' w' hle hr => by rw [calm_out]; exact hp β' L' a' w' hle hr) _ h1
        · intro e a w h; cases e <;> first | exact h | exact h.elim
      · exact h.elim
    · rename_i x y
      refine wpIn_seq (ih F m hF D0 L x s β a w _ hR (Tree.holds_mono ?_ _ (Tree.holds_bind _ h)))
      intro x s1 hp β' L' a' w' hle hR'
      cases x with
      | normal => exact ih F m hF D0 L' y s1 β' a' w' _ hR' (Tree.holds_mono (fun x s hp => Post.le hle hp) _ hp)
      | exit id => exact hp β' L' a' w' hle hR'
      | ret => exact hp β' L' a' w' hle hR'
    · rename_i c x y
      split at h
      · rename_i e he
        have hc := bool_ok (β := β) (opc_ok hR.pc (hR.ev c) he)
        unfold fork at h
        split at h
        · rename_i hd; exact wpIn_cond_true (by rw [hc, decT_ok hR.pc hd]) (ih F m hF D0 L x s β a w _ hR h)
        · rename_i hd; exact wpIn_cond_false (by rw [hc, decT_ok hR.pc hd]) (ih F m hF D0 L y s β a w _ hR h)
        · obtain ⟨h1, h2⟩ := branch_ok hR.pc h
          cases ht : e.tru ρ
          · exact wpIn_cond_false (by rw [hc, ht]) (ih F m hF D0 L y _ β a w _ (with_pc' hR (assume_ok hR.pc ht)) (h2 ht))
          · exact wpIn_cond_true (by rw [hc, ht]) (ih F m hF D0 L x _ β a w _ (with_pc' hR (assume_ok hR.pc ht)) (h1 ht))
      · exact h.elim
    · rename_i id b
      refine wpIn_block (ih F m hF D0 L b s β a w _ hR (Tree.holds_mono ?_ _ (Tree.holds_bind _ h)))
      intro x s1 hp β' L' a' w' hle hR'
      cases x with
      | normal => exact hp β' L' a' w' hle hR'
      | ret => exact hp β' L' a' w' hle hR'
      | exit j =>
        unfold outS at hp
        show if j = id then _ else _
        simp only [] at hp
        split at hp
        · rename_i e; rw [if_pos (Nat.eq_of_beq_eq_true e)]; exact hp β' L' a' w' hle hR'
        · rename_i e; rw [if_neg (by rintro rfl; simp at e)]; exact hp β' L' a' w' hle hR'
    · rename_i b
      exact wpIn_loop_rounds n (loopS_ok ih hF n hR h)
    · exact wpIn_exit (h β L a w (Lay.le_refl _) hR)
    · exact wpIn_ret (h β L a w (Lay.le_refl _) hR)
    · exact h.elim
    · split at h
      · exact h.elim
      · cases hF
        exact rangeS_ok ihy hR h
    · exact h.elim
theorem settle_ok {pc : PC} (h : PcOk ρ pc) {v : SV} : (settle pc v).den ρ β = v.den ρ β := by
  unfold settle
  split
  · rename_i e
    split
    · rename_i hd; have := dec_ok h hd; show some (Value.bool true) = some (Value.bool (e.tru ρ)); rw [this]
    · rename_i hd; have := dec_ok h hd; show some (Value.bool false) = some (Value.bool (e.tru ρ)); rw [this]
    · split
      · rename_i hp; have := prove_ok 80 h hp; show some (Value.bool true) = some (Value.bool (e.tru ρ)); rw [this]
      · rfl
  · rfl
/-- what is asked of a function's own run -/
theorem rets_ok {fn : Func} {QR : SV → List (Nat × Blk) → Prop} {Q : SX → St → Prop} (hq : ∀ x s v, (∀ id, x ≠ .exit id) → resV cx.P fn s = some v → QR (settle s.pc v) s.H → Q x s) : ∀ t : Tree, (t.rets cx.P fn).Holds ρ QR → t.Holds ρ Q
  | .fail _, h => h
  | .all x y, h => ⟨rets_ok hq x h.1, rets_ok hq y h.2⟩
  | .br c x y, h => by
    replace h : if c.tru ρ then (x.rets cx.P fn).Holds ρ QR else (y.rets cx.P fn).Holds ρ QR := h
    show if c.tru ρ then x.Holds ρ Q else y.Holds ρ Q
    split at h
    · rename_i hc; rw [if_pos hc]; exact rets_ok hq x h
    · rename_i hc; rw [if_neg hc]; exact rets_ok hq y h
  | .leaf x s, h => by
    unfold Tree.rets at h
    show Q x s
    cases x with
    | exit id => exact h.elim
    | normal =>
      simp only [] at h
      split at h
      · rename_i v hv; exact hq _ _ v (fun _ e => by cases e) hv h
      · exact h.elim
    | ret =>
      simp only [] at h
      split at h
      · rename_i v hv; exact hq _ _ v (fun _ e => by cases e) hv h
      · exact h.elim
theorem runF_calls (ok : cx.Ok ρ) (hsums : SumsOk cx ρ) (hm : cx.P.follows .mixedOrders = true) {fuel : Nat} {f : FuncId} {args : List SV} {H : List (Nat × Blk)} {n : Nat} {vals : List Value} (hW : WR cx.P ρ ρ.B ρ.w0 ⟨[], []⟩ β H n w) (ha : denA ρ β args = some vals)
    {R : Ending → World → Prop} (h : (runF cx fuel f args H n).Holds ρ fun v H' => ∀ β' w' n' x, β.le β' → WR cx.P ρ ρ.B ρ.w0 ⟨[], []⟩ β' H' n' w' → v.den ρ β' = some x → R (.returned x) w') : Calls cx.P f vals.toArray w R := by
  unfold runF at h
  split at h
  · rename_i fn hfun
    split at h
    · rename_i c hbody
      split at h
      · rename_i hle
        have hle := Nat.le_of_ble_eq_true hle
        refine callsIn_wide.1 (callsIn_of_wp_marks (n := 0) hfun hbody trivial ?_)
        refine run_ok ok hsums hm fuel [] false Fence.wide 0 rfl _ _ c _ β _ w _ (enter_ok (pc := assumes cx.ax (PC.start cx)) (lp := []) (ys := []) hW ok.start ⟨(by intro b r h; cases h), (by intro b c r r' x y h; cases h)⟩ ha hle) ?_
        refine rets_ok ?_ _ h
        intro x s v hx hv hR β' L' a' w' hle hr
        have key : LeavesInM Fence.wide 0 cx.P fn a'.tmps R a'.defers .returning w' := by
          obtain ⟨ds, h1, h2, h3⟩ := hr.marks.own
          rw [h1]
          refine leaves_ok hv hr.frame (fun w3 xv hxv hW3 => ?_) ds L' w' h2 h3 hr.marks.old rfl hr.wr
          exact hR β' w3 s.n xv hle (hW3.ofDs (fun D hD => by cases hD) (fun p hp => by cases hp)) (by rw [settle_ok hr.pc]; exact hxv)
        cases x with
        | exit id => exact absurd rfl (hx id)
        | normal => exact key
        | ret => exact key
      · exact h.elim
    · exact h.elim
  · exact h.elim
/-- of a run whose every end is the truth -/
def allTrue : RTree → Bool
  | .ret v _ => match v with
    | .p (.c (.bool .tt)) => true
    | _ => false
  | .br _ a b => match allTrue a with
    | true => allTrue b
    | false => false
  | .fail _ => false
  | .all a b => match allTrue a with
    | true => allTrue b
    | false => false
theorem allTrue_ok {QR : SV → List (Nat × Blk) → Prop} (hq : ∀ H, QR (.p (.c (.bool .tt))) H) : ∀ {t : RTree}, allTrue t = true → t.Holds ρ QR
  | .ret v H, h => by
    unfold allTrue at h
    split at h
    · exact hq H
    · cases h
  | .br c a b, h => by
    unfold allTrue at h
    split at h
    · rename_i ha
      show if c.tru ρ then a.Holds ρ QR else b.Holds ρ QR
      split
      · exact allTrue_ok hq ha
      · exact allTrue_ok hq h
    · cases h
  | .fail _, h => by cases h
  | .all a b, h => by
    unfold allTrue at h
    split at h
    · rename_i ha; exact ⟨allTrue_ok hq ha, allTrue_ok hq h⟩
    · cases h
/-- no block, nothing laid out -/
def noLay : Lay := fun _ => none
theorem WR.start (P : Program) (ρ : Env) (w : World) (n : Nat) : WR P ρ w.heap.size w ⟨[], []⟩ noLay [] n w :=
  ⟨Below.refl _ _, Nat.le_refl _, fun _ _ => rfl, (by intro b c k k' x y h; cases h), (by intro b k h; cases h), (by intro D h; cases h), (by intro p h; cases h)⟩
/-- a function whose arguments are values: what it hands back -/
theorem runF_ret (ok : cx.Ok ρ) (hsums : SumsOk cx ρ) (hm : cx.P.follows .mixedOrders = true) (hB : ρ.B = w.heap.size) (hw : ρ.w0 = w) {fuel : Nat} {f : FuncId} {args : List SV} {vals : List Value} (ha : denA ρ noLay args = some vals) {x : Value}
    (h : (runF cx fuel f args [] 0).Holds ρ fun v _ => ∀ β y, v.den ρ β = some y → y = x) : Calls cx.P f vals.toArray w (Ret x w) := by
  refine runF_calls (fuel := fuel) (args := args) ok hsums hm (β := noLay) (H := []) (n := 0) (by rw [hB, hw]; exact WR.start cx.P ρ w 0) ha ?_
  have : ∀ {t : RTree}, (t.Holds ρ fun v _ => ∀ β y, v.den ρ β = some y → y = x) → t.Holds ρ fun v H' => ∀ β' w' n' x', noLay.le β' → WR cx.P ρ ρ.B ρ.w0 ⟨[], []⟩ β' H' n' w' → v.den ρ β' = some x' → Ret x w (.returned x') w' := by
    intro t
    induction t with
    | ret v H =>
      intro h β' w' n' x' _ hW hv
      have hx := h β' x' hv
      subst hx
      have := hW.below
      rw [hB, hw] at this
      exact ⟨rfl, this⟩
    | br c a b iha ihb =>
      intro h
      replace h : if c.tru ρ then _ else _ := h
      show if c.tru ρ then _ else _
      split at h
      · rename_i hc; rw [if_pos hc]; exact iha h
      · rename_i hc; rw [if_neg hc]; exact ihb h
    | fail _ => exact id
    | all a b iha ihb => exact fun h => ⟨iha h.1, ihb h.2⟩
  exact this h
theorem runF_true (ok : cx.Ok ρ) (hsums : SumsOk cx ρ) (hm : cx.P.follows .mixedOrders = true) (hB : ρ.B = w.heap.size) (hw : ρ.w0 = w) {fuel : Nat} {f : FuncId} {args : List SV} {vals : List Value} (ha : denA ρ noLay args = some vals)
    (h : allTrue (runF cx fuel f args [] 0) = true) : Calls cx.P f vals.toArray w (Ret (.bool true) w) :=
  runF_ret ok hsums hm hB hw ha (allTrue_ok (fun _ _ _ hy => (Option.some.inj hy).symm) h)
/-- of no letters -/
def env0 (w : World) : Env := ⟨fun _ => 0, fun _ => false, fun _ => .nilFunc, fun _ _ _ _ _ => 0, fun _ _ _ _ _ => false, w.heap.size, w, fun _ => (none, 0), fun _ => ⟨#[]⟩⟩
end
end Go.Proofs.Ytopfaapcekiojaa.Sym
