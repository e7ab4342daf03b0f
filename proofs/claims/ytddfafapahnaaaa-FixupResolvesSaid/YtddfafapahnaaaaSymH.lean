/- The executor's run of code: what holds at its leaves holds of the model's run. -/
import Derived.Test.YtddfafapahnaaaaSymG
namespace Go.Proofs.Ytddfafapahnaaaa.Sym
open Go Go.RowKit Go.Proofs.Ytddfafapahnaaaa

/-- a state and an activation -/
structure RelS (cx : Ctx) (ρ : Env) (B : Nat) (w0 : World) (s : St) (β : Lay) (a : Act) (w : World) : Prop where
  frame : ∀ t v, lk s.F t = some v → ∃ x, v.den ρ β = some x ∧ a.tmps[t]? = some x
  size : a.tmps.size = s.nt
  wr : WR cx.P ρ B w0 β s.H s.n w
  pc : PcOk ρ s.pc
/-- what is asked at a leaf -/
def Post (cx : Ctx) (ρ : Env) (B : Nat) (w0 : World) (β : Lay) (d : List Deferred) (Q : Exit → Act → World → Prop) (x : SX) (s : St) : Prop :=
  ∀ β' a' w', β.le β' → RelS cx ρ B w0 s β' a' w' → a'.defers = d → Q x.out a' w'
theorem Post.le {cx : Ctx} {ρ : Env} {B : Nat} {w0 : World} {β β' : Lay} {d : List Deferred} {Q : Exit → Act → World → Prop} (h : β.le β') {x : SX} {s : St} (hp : Post cx ρ B w0 β d Q x s) : Post cx ρ B w0 β' d Q x s :=
  fun β2 a' w' hle hr hd => hp β2 a' w' (Lay.le_trans h hle) hr hd
/-- a runner of code that is right -/
def Goes (cx : Ctx) (ρ : Env) (go : Code → St → Tree) : Prop :=
  ∀ (c : Code) (s : St) (β : Lay) (a : Act) (w : World) (Q : Exit → Act → World → Prop), RelS cx ρ ρ.B ρ.w0 s β a w →
    (go c s).Holds ρ (Post cx ρ ρ.B ρ.w0 β a.defers Q) → c.wp cx.P Q a w
/-- what is asked of the contracts -/
def SumsOk (cx : Ctx) (ρ : Env) : Prop :=
  ∀ f g, lk cx.sums f = some g → ∀ H args v, g H args = some v → ∀ (β : Lay) vals w n, WR cx.P ρ ρ.B ρ.w0 β H n w → denA ρ β args = some vals → ∃ x, v.den ρ β = some x ∧ Calls cx.P f vals.toArray w (Ret x w)

section
variable {cx : Ctx} {ρ : Env} {B : Nat} {w0 w : World} {β : Lay} {s : St} {a : Act} {o : Oper}
theorem RelS.ev (h : RelS cx ρ B w0 s β a w) (x : Operand) : EvOk ρ β s a.eval x := by
  intro v hv
  unfold opv at hv
  split at hv
  · obtain ⟨y, hy, ht⟩ := h.frame _ _ hv
    rw [hy]
    show _ = some (a.tmps.getD _ Go.undef)
    rw [Array.getD_eq_getD_getElem?, ht]
    rfl
  · obtain ⟨y, hy, e⟩ := map_some hv
    cases e
    exact absP_ok hy
  · cases hv; rfl
  · cases hv
theorem put_get (a : Act) (d t : Nat) (x : Value) : (a.put (some d) x).tmps[t]? = if d = t ∧ t < a.tmps.size then some x else a.tmps[t]? := by
  show (a.tmps.setIfInBounds d x)[t]? = _
  rw [Array.getElem?_setIfInBounds]
  by_cases h : d = t
  · subst h
    by_cases hl : d < a.tmps.size
    · simp [hl]
    · simp [hl]
  · simp [h]
theorem put_defers (a : Act) (dst : Option Tmp) (x : Value) : (a.put dst x).defers = a.defers := by cases dst <;> rfl
theorem putS_ok (h : RelS cx ρ B w0 s β a w) {β' : Lay} {w' : World} {dst : Option Tmp} {v : SV} {x : Value} {H : List (Nat × Blk)} {n : Nat} {s' : St} (hle : β.le β') (hv : v.den ρ β' = some x) (hW : WR cx.P ρ B w0 β' H n w') (hp : putS s dst v H n = some s') :
    RelS cx ρ B w0 s' β' (a.put dst x) w' := by
  unfold putS at hp
  cases dst with
  | none =>
    cases hp
    exact ⟨fun t u hu => by obtain ⟨y, hy, ht⟩ := h.frame t u hu; exact ⟨y, SV.den_le hle hy, ht⟩, h.size, hW, h.pc⟩
  | some d =>
    simp only [] at hp
    split at hp
    · rename_i hd
      have hd : d < s.nt := Nat.le_of_ble_eq_true hd
      cases hp
      refine ⟨?_, ?_, hW, h.pc⟩
      · intro t u hu
        replace hu : lk ((d, v) :: s.F) t = some u := hu
        rw [lk_cons] at hu
        by_cases e : t = d
        · rw [if_pos e] at hu
          cases hu
          subst e
          exact ⟨x, hv, by rw [put_get, if_pos ⟨rfl, by rw [h.size]; exact hd⟩]⟩
        · rw [if_neg e] at hu
          obtain ⟨y, hy, ht⟩ := h.frame t u hu
          exact ⟨y, SV.den_le hle hy, by rw [put_get, if_neg (fun q => e q.1.symm)]; exact ht⟩
      · show (a.tmps.setIfInBounds d x).size = s.nt
        rw [Array.size_setIfInBounds]
        exact h.size
    · cases hp
theorem denA_append {β : Lay} : ∀ {l m : List SV} {vs us : List Value}, denA ρ β l = some vs → denA ρ β m = some us → denA ρ β (l ++ m) = some (vs ++ us)
  | [], _, _, _, e, e' => by cases e; exact e'
  | x :: r, m, vs, us, e, e' => by
    unfold denA at e
    cases hx : x.den ρ β with
    | none => simp [hx] at e
    | some v =>
      cases hr : denA ρ β r with
      | none => simp [hx, hr] at e
      | some l => simp only [hx, hr] at e; cases e; show denA ρ β (x :: (r ++ m)) = _; unfold denA; simp only [hx, denA_append hr e']; rfl
theorem ptrSV_ok : ∀ {l : List (Nat × Nat)} {vs : List Value}, ptrs β l = some vs → denA ρ β (ptrSV l) = some vs
  | [], _, e => by cases e; rfl
  | (b, off) :: r, vs, e => by
    unfold ptrs at e
    cases hb : β b with
    | none => simp [hb] at e
    | some x =>
      cases hr : ptrs β r with
      | none => simp [hb, hr] at e
      | some l =>
        simp only [hb, hr] at e
        cases e
        unfold ptrSV denA
        simp only [SV.den, SP.den, SC.den, hb, Option.map_some, ptrSV_ok hr]
theorem argsS_ok (h : RelS cx ρ B w0 s β a w) : ∀ {xs : List Operand} {l : List SV}, argsS s xs = some l → denA ρ β l = some (xs.map a.eval)
  | [], _, e => by cases e; rfl
  | x :: r, l, e => by
    unfold argsS at e
    split at e
    · rename_i v l' hx hl
      cases e
      unfold denA
      have := opp_ok h.pc (h.ev x) hx
      simp only [SV.den, this, argsS_ok h hl, List.map_cons]
    · cases e
theorem denA_get {β : Lay} : ∀ {l : List SV} {vs : List Value}, denA ρ β l = some vs → ∀ (i j : Nat) (v : SV), lk (slots i l) j = some v → ∃ x, v.den ρ β = some x ∧ i ≤ j ∧ vs[j - i]? = some x
  | [], _, _, _, _, _, h => by cases h
  | y :: r, vs, e, i, j, v, h => by
    unfold denA at e
    cases hx : y.den ρ β with
    | none => simp [hx] at e
    | some u =>
      cases hr : denA ρ β r with
      | none => simp [hx, hr] at e
      | some l =>
        simp only [hx, hr] at e; cases e
        replace h : lk ((i, y) :: slots (i + 1) r) j = some v := h
        rw [lk_cons] at h
        split at h
        · rename_i e; cases h; subst e; exact ⟨u, hx, Nat.le_refl _, by simp⟩
        · obtain ⟨x, hx', hle, hg⟩ := denA_get hr (i + 1) j v h
          refine ⟨x, hx', by omega, ?_⟩
          rw [show j - i = (j - (i + 1)) + 1 by omega, List.getElem?_cons_succ]
          exact hg
theorem denA_length {β : Lay} : ∀ {l : List SV} {vs : List Value}, denA ρ β l = some vs → vs.length = l.length
  | [], _, e => by cases e; rfl
  | x :: r, vs, e => by
    unfold denA at e
    cases hx : x.den ρ β with
    | none => simp [hx] at e
    | some v =>
      cases hr : denA ρ β r with
      | none => simp [hx, hr] at e
      | some l => simp only [hx, hr] at e; cases e; simp [denA_length hr]
/-- the callee's first state -/
theorem enter_ok {H : List (Nat × Blk)} {n : Nat} {pc : List (SE × Bool)} (hW : WR cx.P ρ B w0 β H n w) (hpc : PcOk ρ pc) {args : List SV} {vals : List Value} (ha : denA ρ β args = some vals) {nt : Nat} (hn : args.length ≤ nt) :
    RelS cx ρ B w0 { F := slots 0 args, H := H, n := n, pc := pc, nt := nt } β { tmps := vals.toArray ++ Array.replicate (nt - vals.toArray.size) Go.undef, defers := [] } w := by
  have hl := denA_length ha
  refine ⟨?_, ?_, hW, hpc⟩
  · intro t v hv
    obtain ⟨x, hx, _, hg⟩ := denA_get ha 0 t v hv
    refine ⟨x, hx, ?_⟩
    have hlt : t < vals.length := by
      rcases Nat.lt_or_ge t vals.length with h | h
      · exact h
      · rw [List.getElem?_eq_none (by omega)] at hg; cases hg
    show (vals.toArray ++ Array.replicate (nt - vals.toArray.size) Go.undef)[t]? = some x
    rw [Array.getElem?_append_left (by simpa using hlt)]
    simpa using hg
  · simp
    omega
/-- what a function hands back -/
def resF (tmps : Array Value) : ResultVar → Sem Value
  | .tmp t => pure (tmps.getD t Go.undef)
  | .cell p t => asAddr (tmps.getD p Go.undef) >>= fun x => loadVar t x
theorem results_eq (fn : Func) (tmps : Array Value) : results fn tmps = (fn.results.mapM (resF tmps) >>= fun vs => pure (if h : vs.size = 1 then vs[0] else .tuple vs)) := by
  unfold results
  first
    | rfl
    | (congr 1; congr 1; funext x; cases x <;> rfl)
theorem resS_ok (h : RelS cx ρ B w0 s β a w) : ∀ {l : List ResultVar} {sp : List SP}, resS cx.P s l = some sp → ∃ vs, denP ρ β sp = some vs ∧
    (l.mapM (resF a.tmps)).run cx.P w = .ok vs w
  | [], _, e => by cases e; exact ⟨[], rfl, rfl⟩
  | .tmp t :: r, sp, e => by
    unfold resS at e
    split at e
    · rename_i v l hv hl
      cases e
      obtain ⟨vs, hvs, hr⟩ := resS_ok h hl
      obtain ⟨x, hx, ht⟩ := h.frame _ _ hv
      refine ⟨x :: vs, ?_, ?_⟩
      · unfold denP
        have hx' : v.den ρ β = some x := hx
        simp only [hx', hvs]
      · rw [List.mapM_cons]
        have : a.tmps.getD t Go.undef = x := by rw [Array.getD_eq_getD_getElem?, ht]; rfl
        simp only [resF, Sem.run_bind, Sem.run_pure, Result.andThen_ok, this, hr]
    · cases e
  | .cell p ty :: r, sp, e => by
    unfold resS at e
    split at e
    · rename_i b off l hv hl
      split at e
      · rename_i v hld
        cases e
        obtain ⟨vs, hvs, hr⟩ := resS_ok h hl
        obtain ⟨x, hx, ht⟩ := h.frame _ _ hv
        obtain ⟨ad, cap, hb, he⟩ := ptr_ok (ρ := ρ) hx
        obtain ⟨ad', cap', y, hb', hrun, hy⟩ := h.wr.load hld
        rw [hb] at hb'; cases hb'
        refine ⟨y :: vs, ?_, ?_⟩
        · unfold denP
          simp only [hy, hvs]
        · rw [List.mapM_cons]
          have : a.tmps.getD p Go.undef = .pointer (some ⟨ad, off, none⟩) := by rw [Array.getD_eq_getD_getElem?, ht, he]; rfl
          simp only [resF, Sem.run_bind, Sem.run_pure, Result.andThen_ok, this, asAddr, hrun, hr]
      · cases e
    · cases e
theorem resV_ok (h : RelS cx ρ B w0 s β a w) {fn : Func} {v : SV} (hv : resV cx.P fn s = some v) : ∃ x, v.den ρ β = some x ∧ (results fn a.tmps).run cx.P w = .ok x w := by
  unfold resV at hv
  have key : ∀ sp, resS cx.P s fn.results.toList = some sp → ∃ vs, denP ρ β sp = some vs ∧ (results fn a.tmps).run cx.P w = .ok (if h : vs.toArray.size = 1 then vs.toArray[0] else .tuple vs.toArray) w := by
    intro sp hsp
    obtain ⟨vs, hvs, hr⟩ := resS_ok h hsp
    refine ⟨vs, hvs, ?_⟩
    rw [results_eq, Sem.run_bind, Array.mapM_eq_mapM_toList]
    simp only [Sem.run_map, hr, Result.andThen_ok, Sem.run_pure]
  split at hv
  · rename_i u hu
    cases hv
    obtain ⟨vs, hvs, hr⟩ := key _ hu
    unfold denP at hvs
    cases hx : u.den ρ β with
    | none => simp [hx] at hvs
    | some x =>
      simp [hx, denP] at hvs
      subst hvs
      exact ⟨x, hx, by simpa using hr⟩
  · rename_i l hne hu
    cases hv
    obtain ⟨vs, hvs, hr⟩ := key _ hu
    refine ⟨.tuple vs.toArray, by simp [SV.den, hvs], ?_⟩
    rw [hr]
    have hlen : vs.length ≠ 1 := by
      intro e
      have : l.length = 1 := by
        have hl : ∀ {l : List SP} {vs : List Value}, denP ρ β l = some vs → vs.length = l.length := by
          intro l
          induction l with
          | nil => intro vs e; cases e; rfl
          | cons x r ih =>
            intro vs e
            unfold denP at e
            cases hx : x.den ρ β with
            | none => simp [hx] at e
            | some v =>
              cases hr : denP ρ β r with
              | none => simp [hx, hr] at e
              | some l => simp only [hx, hr] at e; cases e; simp [ih hr]
        rw [← hl hvs, e]
      obtain ⟨y, rfl⟩ := List.length_eq_one_iff.1 this
      exact hne y rfl
    simp [hlen]
  · cases hv
theorem not_defer {cx : Ctx} {s : St} {pc : List (SE × Bool)} {o : Oper} {r : SV × List (Nat × Blk) × Nat} (h : opS cx s pc o = some r) : ∀ c, o.op ≠ .defer c := by
  intro c hc
  unfold opS at h
  simp only [hc] at h
  cases h
end
end Go.Proofs.Ytddfafapahnaaaa.Sym
