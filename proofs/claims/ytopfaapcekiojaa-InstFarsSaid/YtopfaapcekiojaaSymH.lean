/- The executor's run of code: what holds at its leaves holds of the model's run. -/
import Derived.Test.YtopfaapcekiojaaSymG
import Derived.RangeFuncLeaves
import Derived.RangeFuncRecord
namespace Go.Proofs.Ytopfaapcekiojaa.Sym
open Go Go.RowKit Go.Proofs.Ytopfaapcekiojaa

def LS.state : LS → LoopState
  | .ready => .ready
  | .busy => .busy
  | _ => .done
def LS.pend : LS → Option Code
  | .ret => some .ret
  | .out id => some (.exit id)
  | _ => none
/-- the record of a loop over a function is as it is told -/
structure LoopIs (ρ : Env) (β : Lay) (r : Rec) (st : LS) (lo : Loop) : Prop where
  ps : lo.params.toList = r.ps
  assign : lo.assign = r.assign
  body : lo.body = r.body
  size : lo.tmps.size = r.nt
  frame : ∀ t v, lk r.F t = some v → ∃ x, v.den ρ β = some x ∧ lo.tmps[t]? = some x
  state : lo.state = st.state
  pend : lo.pending = st.pend
structure LoopsOk (ρ : Env) (ys : List (Nat × Rec)) (lp : List (Nat × LS)) (β : Lay) (L : Lst) : Prop where
  each : ∀ b r, lk ys b = some r → ∃ l c lo st, β b = some (l, c) ∧ (l, lo) ∈ L.ls ∧ lk lp b = some st ∧ LoopIs ρ β r st lo
  inj : ∀ b c r r' x y, lk ys b = some r → lk ys c = some r' → β b = some x → β c = some y → x.1 = y.1 → b = c
/-- the activation's own marks, and those of its callers -/
def mark (D : Nat) : Deferred := { target := .collected D, args := #[] }
structure MarksOk (D0 : List Nat) (L : Lst) (d : List Deferred) : Prop where
  own : ∃ ds : List Nat, d = ds.map mark ∧ ds.Nodup ∧ ∀ D ∈ ds, D ∈ L.ds ∧ D ∉ D0
  old : ∀ D ∈ D0, D ∈ L.ds
theorem LoopIs.le {ρ : Env} {β β' : Lay} (h : β.le β') {r : Rec} {st : LS} {lo : Loop} (k : LoopIs ρ β r st lo) : LoopIs ρ β' r st lo :=
  ⟨k.ps, k.assign, k.body, k.size, fun t v hv => by obtain ⟨x, hx, ht⟩ := k.frame t v hv; exact ⟨x, SV.den_le h hx, ht⟩, k.state, k.pend⟩
theorem LoopsOk.le {ρ : Env} {ys : List (Nat × Rec)} {lp : List (Nat × LS)} {β β' : Lay} {L : Lst} (h : β.le β') (k : LoopsOk ρ ys lp β L) : LoopsOk ρ ys lp β' L := by
  refine ⟨fun b r hb => ?_, fun b c r r' x y hb hc hx hy e => ?_⟩
  · obtain ⟨l, c, lo, st, h1, h2, h3, h4⟩ := k.each b r hb
    exact ⟨l, c, lo, st, h _ _ h1, h2, h3, h4.le h⟩
  · obtain ⟨l, q, _, _, h1, _⟩ := k.each b r hb
    obtain ⟨l', q', _, _, h1', _⟩ := k.each c r' hc
    rw [h _ _ h1] at hx; rw [h _ _ h1'] at hy
    cases hx; cases hy
    exact k.inj b c r r' _ _ hb hc h1 h1' e
theorem LoopsOk.ls {ρ : Env} {ys : List (Nat × Rec)} {lp : List (Nat × LS)} {β : Lay} {L L' : Lst} (k : LoopsOk ρ ys lp β L) (h : L'.ls = L.ls) : LoopsOk ρ ys lp β L' :=
  ⟨fun b r hb => by obtain ⟨l, c, lo, st, h1, h2, h3⟩ := k.each b r hb; exact ⟨l, c, lo, st, h1, by rw [h]; exact h2, h3⟩, k.inj⟩
def Lst.set (L : Lst) (l : Nat) (lo : Loop) : Lst := ⟨L.ds, (l, lo) :: L.ls.filter (fun p => p.1 != l)⟩
theorem lk_setLp (b c : Nat) (k : LS) : ∀ H : List (Nat × LS), lk (setLp H b k) c = if c = b then (lk H b).map fun _ => k else lk H c
  | [] => by simp [setLp, lk]
  | (u, v) :: r => by
    unfold setLp
    have ih := lk_setLp b c k r
    cases hb : Nat.beq b u with
    | true =>
      have e := Nat.eq_of_beq_eq_true hb
      simp only [lk_cons]
      subst e
      by_cases hc : c = b <;> simp [hc]
    | false =>
      have e : b ≠ u := by rintro rfl; simp at hb
      simp only [lk_cons, ih]
      by_cases hc : c = u
      · have : c ≠ b := by rintro rfl; exact e hc
        rw [if_pos hc, if_neg this, if_pos hc]
      · rw [if_neg hc]
        by_cases hcb : c = b
        · rw [if_pos hcb, if_pos hcb, if_neg e]
        · rw [if_neg hcb, if_neg hcb, if_neg hc]
theorem LoopsOk.set {ρ : Env} {ys : List (Nat × Rec)} {lp : List (Nat × LS)} {β : Lay} {L : Lst} (h : LoopsOk ρ ys lp β L) {b : Nat} {r : Rec} (hb : lk ys b = some r) {l c : Nat} (hβ : β b = some (l, c)) {st : LS} {lo : Loop} (hi : LoopIs ρ β r st lo) :
    LoopsOk ρ ys (setLp lp b st) β (L.set l lo) := by
  refine ⟨fun q r' hq => ?_, h.inj⟩
  obtain ⟨l', c', lo', st', h1, h2, h3, h4⟩ := h.each q r' hq
  by_cases e : q = b
  · subst e
    rw [hb] at hq; cases hq
    rw [hβ] at h1; cases h1
    refine ⟨l, c, lo, st, hβ, List.mem_cons_self, ?_, hi⟩
    rw [lk_setLp, if_pos rfl, h3]; rfl
  · refine ⟨l', c', lo', st', h1, List.mem_cons_of_mem _ (List.mem_filter.2 ⟨h2, ?_⟩), ?_, h4⟩
    · have : l' ≠ l := fun e' => e (h.inj q b r' r _ _ hq hb h1 hβ e')
      simpa using this
    · rw [lk_setLp, if_neg e]; exact h3
theorem WR.setLoop {P : Program} {ρ : Env} {B : Nat} {w0 w : World} {L : Lst} {β : Lay} {H : List (Nat × Blk)} {n : Nat} (h : WR P ρ B w0 L β H n w) {l : Nat} {lo0 lo : Loop} (hl : (l, lo0) ∈ L.ls) : WR P ρ B w0 (L.set l lo) β H n (w.putObj l (.loop lo)) := by
  obtain ⟨hB, hh⟩ := h.ls _ hl
  refine h.putObj hh (by intro _ _ _ e; cases e) hB (fun D hD => ⟨hD, ?_⟩) (fun p hp => ?_)
  · rintro rfl
    have := (h.ds D hD).2
    rw [hh] at this
    cases this
  · rcases List.mem_cons.1 hp with rfl | hp
    · exact .inr ⟨rfl, rfl⟩
    · obtain ⟨h1, h2⟩ := List.mem_filter.1 hp
      exact .inl ⟨h1, by simpa using h2⟩
/-- a state and an activation -/
structure RelS (cx : Ctx) (ρ : Env) (B : Nat) (w0 : World) (D0 : List Nat) (ys : List (Nat × Rec)) (L : Lst) (s : St) (β : Lay) (a : Act) (w : World) : Prop where
  frame : ∀ t v, lk s.F t = some v → ∃ x, v.den ρ β = some x ∧ a.tmps[t]? = some x
  size : a.tmps.size = s.nt
  wr : WR cx.P ρ B w0 L β s.H s.n w
  pc : PcOk ρ s.pc
  loops : LoopsOk ρ ys s.lp β L
  marks : MarksOk D0 L a.defers
/-- the fences that are met: none; a round's body -/
def FOk : Bool → Fence → Prop
  | false, F => F = Fence.wide
  | true, F => ∃ l, F = Fence.wide.inRound l
theorem FOk.fn {inr : Bool} {F : Fence} (h : FOk inr F) (f : FuncId) : F.fn f := by
  cases inr
  · cases h; trivial
  · obtain ⟨l, rfl⟩ := h; trivial
theorem FOk.depth {inr : Bool} {F : Fence} (h : FOk inr F) : F.depth = none := by
  cases inr
  · cases h; rfl
  · obtain ⟨l, rfl⟩ := h; rfl
theorem FOk.calls {inr : Bool} {F : Fence} (h : FOk inr F) {n : Nat} {P : Program} {f : FuncId} {args : Array Value} {w : World} {R : Ending → World → Prop} (hc : Calls P f args w R) : CallsIn F n P f args w R := by
  cases inr
  · cases h; exact callsIn_wide.2 hc
  · obtain ⟨l, rfl⟩ := h; exact CallsIn.inRound l (callsIn_wide.2 hc)
theorem FOk.round {inr : Bool} {F : Fence} (h : FOk inr F) (l : Nat) : FOk true (F.inRound l) := by
  cases inr
  · cases h; exact ⟨l, rfl⟩
  · obtain ⟨l', rfl⟩ := h; exact ⟨l, rfl⟩
/-- what is asked at a leaf -/
def Post (cx : Ctx) (ρ : Env) (B : Nat) (w0 : World) (D0 : List Nat) (ys : List (Nat × Rec)) (β : Lay) (Q : Exit → Act → World → Prop) (x : SX) (s : St) : Prop :=
  ∀ β' L' a' w', β.le β' → RelS cx ρ B w0 D0 ys L' s β' a' w' → Q x.out a' w'
theorem Post.le {cx : Ctx} {ρ : Env} {B : Nat} {w0 : World} {D0 : List Nat} {ys : List (Nat × Rec)} {β β' : Lay} {Q : Exit → Act → World → Prop} (h : β.le β') {x : SX} {s : St} (hp : Post cx ρ B w0 D0 ys β Q x s) : Post cx ρ B w0 D0 ys β' Q x s :=
  fun β2 L' a' w' hle hr => hp β2 L' a' w' (Lay.le_trans h hle) hr
/-- a runner of code that is right -/
def Goes (cx : Ctx) (ρ : Env) (ys : List (Nat × Rec)) (inr : Bool) (go : Code → St → Tree) : Prop :=
  ∀ (F : Fence) (n : Nat), FOk inr F → ∀ (D0 : List Nat) (L : Lst) (c : Code) (s : St) (β : Lay) (a : Act) (w : World) (Q : Exit → Act → World → Prop), RelS cx ρ ρ.B ρ.w0 D0 ys L s β a w →
    (go c s).Holds ρ (Post cx ρ ρ.B ρ.w0 D0 ys β Q) → c.wpIn F n cx.P Q a w
/-- what is asked of the contracts -/
def SumsOk (cx : Ctx) (ρ : Env) : Prop :=
  ∀ f g, lk cx.sums f = some g → ∀ pc H args v, g pc H args = some v → PcOk ρ pc → ∀ (L : Lst) (β : Lay) vals w n, WR cx.P ρ ρ.B ρ.w0 L β H n w → denA ρ β args = some vals → ∃ x, v.den ρ β = some x ∧ Calls cx.P f vals.toArray w (Ret x w)

section
variable {cx : Ctx} {ρ : Env} {B : Nat} {w0 w : World} {D0 : List Nat} {ys : List (Nat × Rec)} {L : Lst} {β : Lay} {s : St} {a : Act} {o : Oper}
theorem RelS.ev (h : RelS cx ρ B w0 D0 ys L s β a w) (x : Operand) : EvOk ρ β s a.eval x := by
  intro v hv
  unfold opv at hv
  split at hv
  · obtain ⟨y, hy, ht⟩ := h.frame _ _ hv
    rw [hy]
    show _ = some (a.tmps.getD _ Go.undef)
    rw [Array.getD_eq_getD_getElem?, ht]
    rfl
  · obtain ⟨y, hy, e⟩ := map_some hv
    cases e
    exact absP_ok hy
  · cases hv; rfl
  · cases hv
theorem put_get (a : Act) (d t : Nat) (x : Value) : (a.put (some d) x).tmps[t]? = if d = t ∧ t < a.tmps.size then some x else a.tmps[t]? := by
  show (a.tmps.setIfInBounds d x)[t]? = _
  rw [Array.getElem?_setIfInBounds]
  by_cases h : d = t
  · subst h
    by_cases hl : d < a.tmps.size
    · simp [hl]
    · simp [hl]
  · simp [h]
theorem put_defers (a : Act) (dst : Option Tmp) (x : Value) : (a.put dst x).defers = a.defers := by cases dst <;> rfl
theorem putS_gen (hf : ∀ t v, lk s.F t = some v → ∃ x, v.den ρ β = some x ∧ a.tmps[t]? = some x) (hsz : a.tmps.size = s.nt) (hpc : PcOk ρ s.pc) {L' : Lst} {β' : Lay} {w' : World} {dst : Option Tmp} {v : SV} {x : Value} {H : List (Nat × Blk)} {n : Nat} {s' : St} (hle : β.le β') (hv : v.den ρ β' = some x)
    (hW : WR cx.P ρ B w0 L' β' H n w') (hl : LoopsOk ρ ys s.lp β' L') (hm : MarksOk D0 L' a.defers) (hp : putS s dst v H n = some s') : RelS cx ρ B w0 D0 ys L' s' β' (a.put dst x) w' := by
  rw [putS_def] at hp
  cases dst with
  | none =>
    cases hp
    exact ⟨fun t u hu => by obtain ⟨y, hy, ht⟩ := hf t u hu; exact ⟨y, SV.den_le hle hy, ht⟩, hsz, hW, hpc, hl, hm⟩
  | some d =>
    simp only [] at hp
    split at hp
    · rename_i hd
      have hd : d < s.nt := Nat.le_of_ble_eq_true hd
      cases hp
      refine ⟨?_, ?_, hW, hpc, hl, hm⟩
      · intro t u hu
        replace hu : lk ((d, v) :: s.F) t = some u := hu
        rw [lk_cons] at hu
        by_cases e : t = d
        · rw [if_pos e] at hu
          cases hu
          subst e
          exact ⟨x, hv, by rw [put_get, if_pos ⟨rfl, by rw [hsz]; exact hd⟩]⟩
        · rw [if_neg e] at hu
          obtain ⟨y, hy, ht⟩ := hf t u hu
          exact ⟨y, SV.den_le hle hy, by rw [put_get, if_neg (fun q => e q.1.symm)]; exact ht⟩
      · show (a.tmps.setIfInBounds d x).size = s.nt
        rw [Array.size_setIfInBounds]
        exact hsz
    · cases hp
theorem putS_ok (h : RelS cx ρ B w0 D0 ys L s β a w) {β' : Lay} {w' : World} {dst : Option Tmp} {v : SV} {x : Value} {H : List (Nat × Blk)} {n : Nat} {s' : St} (hle : β.le β') (hv : v.den ρ β' = some x) (hW : WR cx.P ρ B w0 L β' H n w') (hp : putS s dst v H n = some s') :
    RelS cx ρ B w0 D0 ys L s' β' (a.put dst x) w' :=
  putS_gen h.frame h.size h.pc hle hv hW (h.loops.le hle) h.marks hp
theorem denA_append {β : Lay} : ∀ {l m : List SV} {vs us : List Value}, denA ρ β l = some vs → denA ρ β m = some us → denA ρ β (l ++ m) = some (vs ++ us)
  | [], _, _, _, e, e' => by cases e; exact e'
  | x :: r, m, vs, us, e, e' => by
    unfold denA at e
    cases hx : x.den ρ β with
    | none => simp [hx] at e
    | some v =>
      cases hr : denA ρ β r with
      | none => simp [hx, hr] at e
      | some l => simp only [hx, hr] at e; cases e; show denA ρ β (x :: (r ++ m)) = _; unfold denA; simp only [hx, denA_append hr e']; rfl
theorem ptrSV_ok : ∀ {l : List (Nat × Nat)} {vs : List Value}, ptrs β l = some vs → denA ρ β (ptrSV l) = some vs
  | [], _, e => by cases e; rfl
  | (b, off) :: r, vs, e => by
    unfold ptrs at e
    cases hb : β b with
    | none => simp [hb] at e
    | some x =>
      cases hr : ptrs β r with
      | none => simp [hb, hr] at e
      | some l =>
        simp only [hb, hr] at e
        cases e
        unfold ptrSV denA
        simp only [SV.den, SP.den, SC.den, hb, Option.map_some, ptrSV_ok hr]
theorem argsS_ok (h : RelS cx ρ B w0 D0 ys L s β a w) : ∀ {xs : List Operand} {l : List SV}, argsS s xs = some l → denA ρ β l = some (xs.map a.eval)
  | [], _, e => by cases e; rfl
  | x :: r, l, e => by
    unfold argsS at e
    split at e
    · rename_i v l' hx hl
      cases e
      unfold denA
      have := opp_ok h.pc (h.ev x) hx
      simp only [SV.den, this, argsS_ok h hl, List.map_cons]
    · cases e
theorem denA_get {β : Lay} : ∀ {l : List SV} {vs : List Value}, denA ρ β l = some vs → ∀ (i j : Nat) (v : SV), lk (slots i l) j = some v → ∃ x, v.den ρ β = some x ∧ i ≤ j ∧ vs[j - i]? = some x
  | [], _, _, _, _, _, h => by cases h
  | y :: r, vs, e, i, j, v, h => by
    unfold denA at e
    cases hx : y.den ρ β with
    | none => simp [hx] at e
    | some u =>
      cases hr : denA ρ β r with
      | none => simp [hx, hr] at e
      | some l =>
        simp only [hx, hr] at e; cases e
        replace h : lk ((i, y) :: slots (i + 1) r) j = some v := h
        rw [lk_cons] at h
        split at h
        · rename_i e; cases h; subst e; exact ⟨u, hx, Nat.le_refl _, by simp⟩
        · obtain ⟨x, hx', hle, hg⟩ := denA_get hr (i + 1) j v h
          refine ⟨x, hx', by omega, ?_⟩
          rw [show j - i = (j - (i + 1)) + 1 by omega, List.getElem?_cons_succ]
          exact hg
theorem denA_length {β : Lay} : ∀ {l : List SV} {vs : List Value}, denA ρ β l = some vs → vs.length = l.length
  | [], _, e => by cases e; rfl
  | x :: r, vs, e => by
    unfold denA at e
    cases hx : x.den ρ β with
    | none => simp [hx] at e
    | some v =>
      cases hr : denA ρ β r with
      | none => simp [hx, hr] at e
      | some l => simp only [hx, hr] at e; cases e; simp [denA_length hr]
/-- the callee's first state -/
theorem enter_ok {H : List (Nat × Blk)} {n : Nat} {pc : PC} {lp : List (Nat × LS)} (hW : WR cx.P ρ B w0 L β H n w) (hpc : PcOk ρ pc) (hl : LoopsOk ρ ys lp β L) {args : List SV} {vals : List Value} (ha : denA ρ β args = some vals) {nt : Nat} (hn : args.length ≤ nt) :
    RelS cx ρ B w0 L.ds ys L { F := slots 0 args, H := H, n := n, pc := pc, nt := nt, lp := lp } β { tmps := vals.toArray ++ Array.replicate (nt - vals.toArray.size) Go.undef, defers := [] } w := by
  have hlen := denA_length ha
  refine ⟨?_, ?_, hW, hpc, hl, ⟨⟨[], rfl, List.nodup_nil, fun D hD => by cases hD⟩, fun D hD => hD⟩⟩
  · intro t v hv
    obtain ⟨x, hx, _, hg⟩ := denA_get ha 0 t v hv
    refine ⟨x, hx, ?_⟩
    have hlt : t < vals.length := by
      rcases Nat.lt_or_ge t vals.length with h | h
      · exact h
      · rw [List.getElem?_eq_none (by omega)] at hg; cases hg
    show (vals.toArray ++ Array.replicate (nt - vals.toArray.size) Go.undef)[t]? = some x
    rw [Array.getElem?_append_left (by simpa using hlt)]
    simpa using hg
  · simp
    omega
/-- what a function hands back -/
def resF (tmps : Array Value) : ResultVar → Sem Value
  | .tmp t => pure (tmps.getD t Go.undef)
  | .cell p t => asAddr (tmps.getD p Go.undef) >>= fun x => loadVar t x
theorem results_eq (fn : Func) (tmps : Array Value) : results fn tmps = (fn.results.mapM (resF tmps) >>= fun vs => pure (if h : vs.size = 1 then vs[0] else .tuple vs)) := by
  unfold results
  first
    | rfl
    | (congr 1; congr 1; funext x; cases x <;> rfl)
theorem resS_ok (hf : ∀ t v, lk s.F t = some v → ∃ x, v.den ρ β = some x ∧ a.tmps[t]? = some x) (hW : WR cx.P ρ B w0 L β s.H s.n w) : ∀ {l : List ResultVar} {sp : List SP}, resS cx.P s l = some sp → ∃ vs, denP ρ β sp = some vs ∧
    (l.mapM (resF a.tmps)).run cx.P w = .ok vs w
  | [], _, e => by cases e; exact ⟨[], rfl, rfl⟩
  | .tmp t :: r, sp, e => by
    unfold resS at e
    split at e
    · rename_i v l hv hl
      cases e
      obtain ⟨vs, hvs, hr⟩ := resS_ok hf hW hl
      obtain ⟨x, hx, ht⟩ := hf _ _ hv
      refine ⟨x :: vs, ?_, ?_⟩
      · unfold denP
        have hx' : v.den ρ β = some x := hx
        simp only [hx', hvs]
      · rw [List.mapM_cons]
        have : a.tmps.getD t Go.undef = x := by rw [Array.getD_eq_getD_getElem?, ht]; rfl
        simp only [resF, Sem.run_bind, Sem.run_pure, Result.andThen_ok, this, hr]
    · cases e
  | .cell p ty :: r, sp, e => by
    unfold resS at e
    split at e
    · rename_i b off l hv hl
      split at e
      · rename_i v hld
        cases e
        obtain ⟨vs, hvs, hr⟩ := resS_ok hf hW hl
        obtain ⟨x, hx, ht⟩ := hf _ _ hv
        obtain ⟨ad, cap, hb, he⟩ := ptr_ok (ρ := ρ) hx
        obtain ⟨ad', cap', y, hb', hrun, hy⟩ := hW.load hld
        rw [hb] at hb'; cases hb'
        refine ⟨y :: vs, ?_, ?_⟩
        · unfold denP
          simp only [hy, hvs]
        · rw [List.mapM_cons]
          have : a.tmps.getD p Go.undef = .pointer (some ⟨ad, off, none⟩) := by rw [Array.getD_eq_getD_getElem?, ht, he]; rfl
          simp only [resF, Sem.run_bind, Sem.run_pure, Result.andThen_ok, this, asAddr, hrun, hr]
      · cases e
    · cases e
theorem resV_ok (hf : ∀ t v, lk s.F t = some v → ∃ x, v.den ρ β = some x ∧ a.tmps[t]? = some x) (hW : WR cx.P ρ B w0 L β s.H s.n w) {fn : Func} {v : SV} (hv : resV cx.P fn s = some v) : ∃ x, v.den ρ β = some x ∧ (results fn a.tmps).run cx.P w = .ok x w := by
  unfold resV at hv
  have key : ∀ sp, resS cx.P s fn.results.toList = some sp → ∃ vs, denP ρ β sp = some vs ∧ (results fn a.tmps).run cx.P w = .ok (if h : vs.toArray.size = 1 then vs.toArray[0] else .tuple vs.toArray) w := by
    intro sp hsp
    obtain ⟨vs, hvs, hr⟩ := resS_ok hf hW hsp
    refine ⟨vs, hvs, ?_⟩
    rw [results_eq, Sem.run_bind, Array.mapM_eq_mapM_toList]
    simp only [Sem.run_map, hr, Result.andThen_ok, Sem.run_pure]
  split at hv
  · rename_i u hu
    cases hv
    obtain ⟨vs, hvs, hr⟩ := key _ hu
    unfold denP at hvs
    cases hx : u.den ρ β with
    | none => simp [hx] at hvs
    | some x =>
      simp [hx, denP] at hvs
      subst hvs
      exact ⟨x, hx, by simpa using hr⟩
  · rename_i l hne hu
    cases hv
    obtain ⟨vs, hvs, hr⟩ := key _ hu
    refine ⟨.tuple vs.toArray, by simp [SV.den, hvs], ?_⟩
    rw [hr]
    have hlen : vs.length ≠ 1 := by
      intro e
      have : l.length = 1 := by
        have hl : ∀ {l : List SP} {vs : List Value}, denP ρ β l = some vs → vs.length = l.length := by
          intro l
          induction l with
          | nil => intro vs e; cases e; rfl
          | cons x r ih =>
            intro vs e
            unfold denP at e
            cases hx : x.den ρ β with
            | none => simp [hx] at e
            | some v =>
              cases hr : denP ρ β r with
              | none => simp [hx, hr] at e
              | some l => simp only [hx, hr] at e; cases e; simp [ih hr]
        rw [← hl hvs, e]
      obtain ⟨y, rfl⟩ := List.length_eq_one_iff.1 this
      exact hne y rfl
    simp [hlen]
  · cases hv
theorem not_defer {cx : Ctx} {s : St} {pc : PC} {o : Oper} {r : SV × List (Nat × Blk) × Nat} (h : opS cx s pc o = some r) : ∀ c, o.op ≠ .defer c := by
  intro c hc
  unfold opS at h
  simp only [hc] at h
  cases h
/-- what is known of fewer blocks -/
theorem WR.ofDs {H : List (Nat × Blk)} {n : Nat} (h : WR cx.P ρ B w0 L β H n w) {L' : Lst} (hd : ∀ D ∈ L'.ds, D ∈ L.ds) (hl : ∀ p ∈ L'.ls, p ∈ L.ls) : WR cx.P ρ B w0 L' β H n w :=
  ⟨h.below, h.base, h.fresh, h.inj, h.blk, fun D hD => h.ds D (hd D hD), fun p hp => h.ls p (hl p hp)⟩
/-- the marks are taken, the results handed back -/
theorem leaves_ok {fn : Func} {v : SV} (hv : resV cx.P fn s = some v) (hf : ∀ t v, lk s.F t = some v → ∃ x, v.den ρ β = some x ∧ a.tmps[t]? = some x) {R : Ending → World → Prop} {n : Nat} {l0 : List (Nat × Loop)}
    (hR : ∀ w' x, v.den ρ β = some x → WR cx.P ρ B w0 ⟨D0, l0⟩ β s.H s.n w' → R (.returned x) w') : ∀ (ds : List Nat) (L : Lst) (w : World), ds.Nodup → (∀ D ∈ ds, D ∈ L.ds ∧ D ∉ D0) → (∀ D ∈ D0, D ∈ L.ds) → L.ls = l0 → WR cx.P ρ B w0 L β s.H s.n w →
    LeavesInM Fence.wide n cx.P fn a.tmps R (ds.map mark) .returning w
  | [], L, w, _, _, ho, hl, hW => by
    obtain ⟨x, hx, hr⟩ := resV_ok hf hW hv
    exact ⟨x, hr, hR w x hx (hW.ofDs ho (by rw [hl]; exact fun _ h => h))⟩
  | D :: ds, L, w, hnd, hd, ho, hl, hW => by
    obtain ⟨h1, h2⟩ := hd D List.mem_cons_self
    obtain ⟨hB, hh⟩ := hW.ds D h1
    obtain ⟨hnd1, hnd2⟩ := List.nodup_cons.1 hnd
    refine ⟨by simp, .inl ⟨D, _, rfl, run_takeDeferred hh, ?_⟩⟩
    refine leaves_ok hv hf hR ds ⟨L.ds.filter (fun x => x != D), L.ls⟩ _ hnd2 ?_ ?_ hl ?_
    · intro E hE
      obtain ⟨q1, q2⟩ := hd E (List.mem_cons_of_mem _ hE)
      refine ⟨List.mem_filter.2 ⟨q1, ?_⟩, q2⟩
      have : E ≠ D := by rintro rfl; exact hnd1 hE
      simpa using this
    · intro E hE
      refine List.mem_filter.2 ⟨ho E hE, ?_⟩
      have : E ≠ D := by rintro rfl; exact h2 hE
      simpa using this
    · refine hW.putObj hh (by intro _ _ _ e; cases e) hB (fun E hE => ?_) (fun p hp => .inl ⟨hp, ?_⟩)
      · obtain ⟨q1, q2⟩ := List.mem_filter.1 hE
        exact ⟨q1, by simpa using q2⟩
      · intro e
        have := (hW.ls p hp).2
        rw [e, hh] at this
        cases this
end
end Go.Proofs.Ytopfaapcekiojaa.Sym
