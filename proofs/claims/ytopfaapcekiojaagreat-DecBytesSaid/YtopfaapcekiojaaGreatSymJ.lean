/- Regions that draw their order, beside blocks that are held: an operation that reads held blocks alone may be taken first. In whatever fence lets all functions in. -/
import Derived.Test.YtopfaapcekiojaaGreatSymC
import Derived.OrdersIn
import Derived.Test.YtopfaapcekiojaaGreatSymG
import Derived.RangeFuncNested
namespace Go.Proofs.YtopfaapcekiojaaGreat.Sym
open Go Go.RowKit Go.Proofs.YtopfaapcekiojaaGreat

section
variable {F : Fence} {n : Nat} {P : Program} {ops : Array Oper} {Q : Exit → Act → World → Prop} {S : World → Prop}
/-- all orders; between any two operations S holds -/
def anyH (F : Fence) (n : Nat) (P : Program) (ops : Array Oper) (Q : Exit → Act → World → Prop) (S : World → Prop) : Nat → Array Bool → Act → World → Prop
  | 0, listed, a, w => S w ∧ Region.ready .any ops listed = [] ∧ Q .normal a w
  | m + 1, listed, a, w => S w ∧ (Region.ready .any ops listed = [] → Q .normal a w) ∧ ∀ i ∈ Region.ready .any ops listed, wpOpIn F n P ops Q i (anyH F n P ops Q S m (listed.setIfInBounds i true)) a w
theorem anyH_any : ∀ (m : Nat) (listed : Array Bool) (a : Act) (w : World), anyH F n P ops Q S m listed a w → wpAnyIn F n P .any ops Q m listed a w
  | 0, _, _, _, h => h.2
  | m + 1, _, _, _, h => ⟨h.2.1, fun i hi => wpOpIn_mono (fun a w hk => anyH_any m _ a w hk) (h.2.2 i hi)⟩
theorem anyH_S : ∀ {m : Nat} {listed : Array Bool} {a : Act} {w : World}, anyH F n P ops Q S m listed a w → S w
  | 0, _, _, _, h => h.1
  | _ + 1, _, _, _, h => h.1
/-- it gives v wherever S holds -/
def YieldsS (P : Program) (ops : Array Oper) (S : World → Prop) (o : Oper) (v : Value) (a : Act) : Prop :=
  (Region.wanted o (yielded ops a.tmps) = true ∧ ∀ w, S w → (execOp a.eval o).run P w = .ok (.value v) w) ∨ (Region.wanted o (yielded ops a.tmps) = false ∧ v = Go.undef)
theorem eval_tmps {a b : Act} (h : a.tmps = b.tmps) : a.eval = b.eval := by
  obtain ⟨t, d⟩ := a
  obtain ⟨u, e⟩ := b
  replace h : t = u := h
  subst h
  rfl
theorem YieldsS.now {i : Nat} {o : Oper} {v : Value} {a : Act} (hfn : ∀ f, F.fn f) (hi : ops[i]? = some o) (hnd : ∀ c, o.op ≠ .defer c) (hy : YieldsS P ops S o v a) {K : Act → World → Prop} {w : World} (hS : S w) (h : K (a.put o.dst v) w) : wpOpIn F n P ops Q i K a w := by
  unfold Go.wpOpIn
  simp only [hi]
  rcases hy with ⟨hw, hv⟩ | ⟨hw, rfl⟩
  · rw [if_pos hw]
    refine ⟨fun f _ => hfn f, ?_⟩
    rw [Oper.semAt_eq _ _ _ hnd, hv w hS]
    exact h
  · rw [if_neg (by rw [hw]; simp)]
    exact ⟨fun f _ => hfn f, h⟩
theorem wpOpIn_comm {j : Nat} {oi oj : Oper} {v : Value} (hfn : ∀ f, F.fn f) (hj : ops[j]? = some oj) (hnd : ∀ c, oj.op ≠ .defer c) (hsj : ∀ cs b, oj.op ≠ .select cs b) (hap : oi.apart ops oj = true)
    (hQ : ∀ c a a' w, Q (.panic c) a' w → Q (.panic c) a w) {K : Act → World → Prop} {a : Act} {w : World} (h : wpOpIn F n P ops Q j K (a.put oi.dst v) w) :
    wpOpIn F n P ops Q j (fun a' w' => (∃ u, a'.tmps = (a.put oj.dst u).tmps) ∧ K (a'.put oi.dst v) w') a w := by
  obtain ⟨h1, h2, h3⟩ := Oper.apart_spec hap
  unfold wpOpIn at *
  simp only [hj] at *
  rw [wanted_put oj a oi.dst v h1] at h
  split
  · rename_i hw
    rw [if_pos hw] at h
    refine ⟨fun f _ => hfn f, ?_⟩
    replace h := h.2
    rw [Oper.semAt_eq _ _ _ hnd, execOp_put oj hsj a oi.dst v h1] at h
    rw [Oper.semAt_eq _ _ _ hnd]
    generalize (execOp a.eval oj).run P w = r at *
    cases r with
    | ok x w' =>
      cases x <;> simp only [Oper.uponIn] at h ⊢
      case value u => exact ⟨⟨u, rfl⟩, by rw [← Act.put_comm a v u h2]; exact h⟩
      case skip => exact ⟨⟨_, rfl⟩, by rw [← Act.put_comm a v Go.undef h2]; exact h⟩
      case defer d =>
        refine ⟨⟨Go.undef, ?_⟩, ?_⟩
        · cases oj.dst <;> rfl
        · rw [← Act.put_comm _ v Go.undef h2, ← Act.put_defers]
          exact h
      case enter f args =>
        refine ⟨h.1, CallsIn.mono h.2 fun e w'' he => ?_⟩
        cases e with
        | returned u => exact ⟨⟨u, rfl⟩, by rw [← Act.put_comm a v u h2]; exact he⟩
        | panicked c => exact hQ _ _ _ _ he
        | outgrown => exact he
      case row row args => exact ⟨h.1, RowsIn.mono h.2 fun u w'' he => ⟨⟨u, rfl⟩, by rw [← Act.put_comm a v u h2]; exact he⟩⟩
      case round l f tmps assign body =>
        refine ⟨h.1, RoundIn.mono h.2 fun e w'' he => ?_⟩
        cases e with
        | returned u => exact ⟨⟨u, rfl⟩, by rw [← Act.put_comm a v u h2]; exact he⟩
        | panicked c => exact hQ _ _ _ _ he
        | outgrown => exact he
    | halt x w' =>
      cases x <;> simp only [Oper.uponIn] at h ⊢
      case panic u => exact hQ _ _ _ _ h
  · rename_i hw
    rw [if_neg hw] at h
    exact ⟨fun f _ => hfn f, ⟨_, rfl⟩, by rw [← Act.put_comm a v Go.undef h2]; exact h.2⟩
theorem YieldsS.moved {oi oj : Oper} {v u : Value} {a a' : Act} (hsi : ∀ cs b, oi.op ≠ .select cs b) (hap : oi.apart ops oj = true) (ha : a'.tmps = (a.put oj.dst u).tmps) (hy : YieldsS P ops S oi v a) : YieldsS P ops S oi v a' := by
  obtain ⟨_, _, h3⟩ := Oper.apart_spec hap
  unfold YieldsS at *
  rw [eval_tmps ha, ha, execOp_put oi hsi a oj.dst u h3, wanted_put oi a oj.dst u h3]
  exact hy
theorem anyH_first {i : Nat} {oi : Oper} {v : Value} (hfn : ∀ f, F.fn f) (hi : ops[i]? = some oi) (hpl : ∀ (j : Nat) (o : Oper), ops[j]? = some o → (∀ c, o.op ≠ .defer c) ∧ ∀ cs b, o.op ≠ .select cs b)
    (hQ : ∀ c a a' w, Q (.panic c) a' w → Q (.panic c) a w) : ∀ (m : Nat) (listed : Array Bool) (a : Act) (w : World),
      (∀ j oj, ops[j]? = some oj → j ≠ i → listed.getD j true = false → (∀ e ∈ oj.after, Region.binds .any e = true → e.on ≠ i) → oi.apart ops oj = true) →
      i ∈ Region.ready .any ops listed → YieldsS P ops S oi v a → S w →
      anyH F n P ops Q S m (listed.setIfInBounds i true) (a.put oi.dst v) w → anyH F n P ops Q S (m + 1) listed a w := by
  intro m
  induction m with
  | zero =>
    intro listed a w _ hr hy hS H
    refine ⟨hS, fun h => (by rw [h] at hr; cases hr), fun j hj => ?_⟩
    by_cases hji : j = i
    · subst hji; exact hy.now hfn hi (hpl _ _ hi).1 hS H
    · have := ready_mono hj hji
      rw [H.2.1] at this
      cases this
  | succ m ih =>
    intro listed a w hfree hr hy hS H
    refine ⟨hS, fun h => (by rw [h] at hr; cases hr), fun j hj => ?_⟩
    by_cases hji : j = i
    · subst hji; exact hy.now hfn hi (hpl _ _ hi).1 hS H
    · have h1 := H.2.2 j (ready_mono hj hji)
      obtain ⟨hjun, oj, hoj, hall⟩ := mem_ready.1 hj
      have hnot : ∀ e ∈ oj.after, Region.binds .any e = true → e.on ≠ i := fun e he hb heq => by
        have h1 := hall e he hb
        have h0 := (mem_ready.1 hr).1
        rw [heq] at h1
        rcases Nat.lt_or_ge i listed.size with h' | h'
        · simp [h'] at h0 h1; rw [h0] at h1; cases h1
        · simp [Array.getElem?_eq_none h'] at h1
      have hap := hfree j oj hoj hji hjun hnot
      have h2 := wpOpIn_comm hfn hoj (hpl _ _ hoj).1 (hpl _ _ hoj).2 hap hQ h1
      have hfree' : ∀ k ok, ops[k]? = some ok → k ≠ i → (listed.setIfInBounds j true).getD k true = false →
          (∀ e ∈ ok.after, Region.binds .any e = true → e.on ≠ i) → oi.apart ops ok = true := fun k ok hk hki hun hno => by
        refine hfree k ok hk hki ?_ hno
        by_cases hjk : j = k
        · subst hjk; exact hjun
        · rw [getD_set_ne true hjk] at hun; exact hun
      refine wpOpIn_mono (fun a' w' h3 => ?_) h2
      obtain ⟨⟨u, hu⟩, h3⟩ := h3
      refine ih (listed.setIfInBounds j true) a' w' hfree' (ready_mono hr (Ne.symm hji)) (hy.moved (hpl _ _ hi).2 hap hu) (anyH_S h3) ?_
      rw [Array.setIfInBounds_comm _ _ hji]
      exact h3
theorem anyH_done {listed : Array Bool} {a : Act} {w : World} (hr : Region.ready .any ops listed = []) (hS : S w) (h : Q .normal a w) : ∀ m, anyH F n P ops Q S m listed a w
  | 0 => ⟨hS, hr, h⟩
  | _ + 1 => ⟨hS, fun _ => h, by rw [hr]; simp⟩
/-- what is held stays where it lay -/
theorem BlkAt.back {P : Program} {ρ : Env} {B : Nat} {β β' : Lay} {w w' : World} {b : Nat} {k : Blk} (h0 : BlkAt P ρ B β w b k) (hle : β.le β') (h : BlkAt P ρ B β' w' b k) : BlkAt P ρ B β w' b k := by
  obtain ⟨ad, cap, cs, cur, h1, h2, h3, _⟩ := h0
  obtain ⟨ad', cap', cs', cur', g1, g2, g3, g4, g5, g6, g7⟩ := h
  rw [hle _ _ h1] at g1
  cases g1
  rw [denL_le hle h2] at g2
  cases g2
  exact ⟨ad, cap, cs, cur', h1, h2, h3, g4, g5, g6, g7⟩
theorem BlkAt.low {P : Program} {ρ : Env} {B B' : Nat} {β : Lay} {w : World} {b : Nat} {k : Blk} (hB : B' ≤ B) (h : BlkAt P ρ B β w b k) : BlkAt P ρ B' β w b k := by
  obtain ⟨ad, cap, cs, cur, h1, h2, h3, r⟩ := h
  exact ⟨ad, cap, cs, cur, h1, h2, by omega, r⟩
end
end Go.Proofs.YtopfaapcekiojaaGreat.Sym

/- The executor's runs are right; a function's contract out of its run. -/
namespace Go.Proofs.YtopfaapcekiojaaGreat.Sym
open Go Go.RowKit Go.Proofs.YtopfaapcekiojaaGreat

section
variable {cx : Ctx} {ρ : Env} {B : Nat} {w0 w : World} {D0 : List Nat} {ys : List (Nat × Rec)} {L : Lst} {β : Lay} {s : St} {a : Act} {o : Oper}
theorem subF_ok {F1 F2 : List (Nat × SV)} : ∀ {l : List (Nat × SV)}, subF F1 F2 l = true → ∀ t v, lk l t = some v → ∀ u, lk F2 t = some u → lk F1 t = some u
  | [], _, t, v, h, _, _ => by cases h
  | (t', v') :: r, h, t, v, hl, u, hu => by
    simp only [subF, Bool.and_eq_true] at h
    rw [lk_cons] at hl
    by_cases e : t = t'
    · subst e
      have h1 := h.1
      rw [hu] at h1
      split at h1
      · rename_i x y hx hy
        cases hy
        rw [hx, SV.same_eq h1]
      · cases h1
    · rw [if_neg e] at hl
      exact subF_ok h.2 t v hl u hu
theorem sub_ok {s1 s2 : St} (h : s1.sub s2 = true) (hR : RelS cx ρ B w0 D0 ys L s1 β a w) : RelS cx ρ B w0 D0 ys L s2 β a w := by
  simp only [St.sub, Bool.and_eq_true] at h
  obtain ⟨h1, h2, h3, h4, h5, h6⟩ := h
  have h2 := lSame_eq hSame_eq h2
  have h3 := Nat.eq_of_beq_eq_true h3
  have h4 := Nat.eq_of_beq_eq_true h4
  have h6 := lSame_eq lpSame_eq h6
  refine ⟨fun t v hv => hR.frame t v (subF_ok h1 t v hv v hv), ?_, ?_, subPc_ok hR.pc h5, ?_, hR.marks⟩
  · rw [← h4]; exact hR.size
  · rw [← h2, ← h3]; exact hR.wr
  · rw [← h6]; exact hR.loops
theorem covers_ok {Q : Exit → Act → World → Prop} {s1 : St} : ∀ {t : Tree}, covers s1 t = true → t.Holds ρ (Post cx ρ B w0 D0 ys β Q) → Post cx ρ B w0 D0 ys β Q .normal s1
  | .leaf .normal s2, hc, h => fun β' L' a' w' hle hr => h β' L' a' w' hle (sub_ok hc hr)
  | .all a b, hc, h => by
    unfold covers at hc
    split at hc
    · rename_i ha; exact covers_ok ha h.1
    · exact covers_ok hc h.2
theorem joinS_ok {Q : Exit → Act → World → Prop} : ∀ {x y : Tree}, (joinS x y).Holds ρ (Post cx ρ B w0 D0 ys β Q) → x.Holds ρ (Post cx ρ B w0 D0 ys β Q) ∧ y.Holds ρ (Post cx ρ B w0 D0 ys β Q)
  | .leaf .normal s1, y, h => by
    unfold joinS at h
    split at h
    · rename_i hc; exact ⟨covers_ok hc h, h⟩
    · exact h
  | .all a1 a2, y, h => by
    unfold joinS at h
    obtain ⟨h1, h2⟩ := joinS_ok h
    obtain ⟨h3, h4⟩ := joinS_ok h2
    exact ⟨⟨h1, h3⟩, h4⟩
  | .leaf (.exit _) _, y, h => h
  | .leaf .ret _, y, h => h
  | .br _ _ _, y, h => h
  | .fail _, y, h => h
theorem allS_ok {Q : Exit → Act → World → Prop} {t : Nat → Tree} : ∀ {rs : List Nat}, (allS t rs).Holds ρ (Post cx ρ B w0 D0 ys β Q) → ∀ i ∈ rs, (t i).Holds ρ (Post cx ρ B w0 D0 ys β Q)
  | [], _, i, hi => by cases hi
  | [j], h, i, hi => by
    have : i = j := by simpa using hi
    subst this
    exact h
  | j :: k :: r, h, i, hi => by
    obtain ⟨h1, h2⟩ := joinS_ok h
    rcases List.mem_cons.1 hi with rfl | hi
    · exact h1
    · exact allS_ok h2 i hi
/-- the held blocks are as they were -/
def Held (cx : Ctx) (ρ : Env) (β : Lay) (H0 : List (Nat × Blk)) (w : World) : Prop := ∀ b k, lk H0 b = some k → BlkAt cx.P ρ ρ.B β w b k
theorem pureS_ok (ok : cx.Ok ρ) (hR : RelS cx ρ ρ.B ρ.w0 D0 ys L s β a w) {H0 : List (Nat × Blk)} {β0 : Lay} (hle : β0.le β) (hH : ∀ b k, lk H0 b = some k → lk s.H b = some k) {pc : PC} (hpc : PcOk ρ pc) {v : SV} (hS : Held cx ρ β0 H0 w) (h : pureS cx s H0 pc o = some v) :
    ∃ x, v.den ρ β = some x ∧ ∀ w, Held cx ρ β0 H0 w → (execOp a.eval o).run cx.P w = .ok (.value x) w := by
  unfold pureS at h
  have hl : ¬ Lays o ∧ ∃ H n, opS cx { s with H := H0 } pc o = some (v, H, n) := by
    split at h
    · cases h
    · rename_i hl
      split at h
      · rename_i v' H n hop
        cases h
        refine ⟨?_, H, n, hop⟩
        unfold Lays
        intro e
        rw [e] at hl
        simp at hl
      · cases h
  obtain ⟨hnl, H, n, hop⟩ := hl
  have hall : ∀ w, Held cx ρ β0 H0 w → ∃ x, v.den ρ β = some x ∧ (execOp a.eval o).run cx.P w = .ok (.value x) w := by
    intro w hw
    have hW : WR cx.P ρ 0 w ⟨[], []⟩ β H0 s.n w := ⟨Below.refl _ _, Nat.zero_le _, hR.wr.fresh, (fun b c k k' x y hb hc hx hy e => hR.wr.inj b c k k' x y (hH b k hb) (hH c k' hc) hx hy e), (fun b k hb => ((hw b k hb).le hle).low (Nat.zero_le _)), (by intro D h; cases h), (by intro p h; cases h)⟩
    have hev : ∀ y ∈ o.op.operands.toList, EvOk ρ β { s with H := H0 } a.eval y := fun y _ => hR.ev y
    obtain ⟨β', w', x, hle, hx, hW', _, hl⟩ := opS_ok (s := { s with H := H0 }) ok hpc hW hev hop
    rcases hl with ⟨hr, rfl, rfl⟩ | hl
    · exact ⟨x, hx, hr⟩
    · exact absurd hl hnl
  obtain ⟨x, hx, _⟩ := hall w hS
  refine ⟨x, hx, fun w' hw' => ?_⟩
  obtain ⟨y, hy, hr⟩ := hall w' hw'
  rw [hx] at hy
  cases hy
  exact hr
theorem tryS_ok (ok : cx.Ok ρ) {ops : Array Oper} {listed : Array Bool} (hR : RelS cx ρ ρ.B ρ.w0 D0 ys L s β a w) {H0 : List (Nat × Blk)} {β0 : Lay} (hle : β0.le β) (hH : ∀ b k, lk H0 b = some k → lk s.H b = some k) (hS : Held cx ρ β0 H0 w) {i : Nat} {s' : St} (h : tryS cx H0 ops listed s i = some s') :
    ∃ o v, ops[i]? = some o ∧ Region.free .any ops listed i = true ∧ YieldsS cx.P ops (Held cx ρ β0 H0) o v a ∧ RelS cx ρ ρ.B ρ.w0 D0 ys L s' β (a.put o.dst v) w ∧ s'.H = s.H := by
  have hput : ∀ dst v, putS s dst v s.H s.n = some s' → s'.H = s.H := by
    intro dst v hp
    rw [putS_def] at hp
    cases dst with
    | none => cases hp; rfl
    | some d =>
      simp only [] at hp
      split at hp
      · cases hp; rfl
      · cases hp
  unfold tryS at h
  split at h
  · cases h
  · rename_i o ho
    split at h
    · cases h
    · rename_i hf
      simp only [Bool.and_eq_true] at hf
      obtain ⟨hnc, hf⟩ := hf
      split at h
      · cases h
      · rename_i e he
        have hg := guardS_ok hR he
        split at h
        · rename_i hd
          exact ⟨o, Go.undef, ho, hf, .inr ⟨by rw [hg, decT_ok hR.pc hd], rfl⟩, putS_ok hR (Lay.le_refl _) rfl hR.wr h, hput _ _ h⟩
        · rename_i hd
          split at h
          · rename_i v hv
            obtain ⟨x, hx, hr⟩ := pureS_ok ok hR hle hH hR.pc hS hv
            exact ⟨o, x, ho, hf, .inl ⟨by rw [hg, decT_ok hR.pc hd], hr⟩, putS_ok hR (Lay.le_refl _) hx hR.wr h, hput _ _ h⟩
          · cases h
        · split at h
          · rename_i v hv
            cases ht : e.tru ρ
            · exact ⟨o, Go.undef, ho, hf, .inr ⟨by rw [hg, ht], rfl⟩, putS_ok hR (Lay.le_refl _) (by simp [SV.den, ht]) hR.wr h, hput _ _ h⟩
            · obtain ⟨x, hx, hr⟩ := pureS_ok ok hR hle hH (assume_ok hR.pc ht) hS hv
              exact ⟨o, x, ho, hf, .inl ⟨by rw [hg, ht], hr⟩, putS_ok hR (Lay.le_refl _) (by simp only [SV.den, ht, if_true]; exact hx) hR.wr h, hput _ _ h⟩
          · cases h
theorem takeS_ok {ops : Array Oper} {listed : Array Bool} {H0 : List (Nat × Blk)} : ∀ {rs : List Nat} {i : Nat} {s' : St}, takeS cx H0 ops listed s rs = some (i, s') → i ∈ rs ∧ tryS cx H0 ops listed s i = some s'
  | [], _, _, h => by cases h
  | j :: r, i, s', h => by
    unfold takeS at h
    split at h
    · rename_i s2 hs; cases h; exact ⟨List.mem_cons_self, hs⟩
    · obtain ⟨h1, h2⟩ := takeS_ok h; exact ⟨List.mem_cons_of_mem _ h1, h2⟩
theorem broken_ok {H : List (Nat × Blk)} : ∀ {H0 : List (Nat × Blk)}, broken H0 H = none → ∀ b k, lk H0 b = some k → lk H b = some k
  | [], _, b, k, h => by cases h
  | (c, kc) :: r, hb, b, k, h => by
    unfold broken at hb
    split at hb
    · rename_i k' hk'
      split at hb
      · rename_i hs
        rw [lk_cons] at h
        by_cases e : b = c
        · rw [if_pos e] at h
          cases h
          subst e
          rw [hk', Blk.same_eq hs]
        · rw [if_neg e] at h
          exact broken_ok hb b k h
      · cases hb
    · cases hb
theorem plainOps_ok {ops : Array Oper} (h : plainOps ops = true) : ∀ (j : Nat) (o : Oper), ops[j]? = some o → (∀ c, o.op ≠ .defer c) ∧ ∀ cs b, o.op ≠ .select cs b := by
  intro j o ho
  have := Array.all_eq_true_iff_forall_mem.1 h o (Array.mem_of_getElem? ho)
  refine ⟨fun c e => ?_, fun cs b e => ?_⟩
  · rw [e] at this; cases this
  · rw [e] at this; cases this
/-- no panic -/
def calm (Q : Exit → Act → World → Prop) : Exit → Act → World → Prop
  | .panic _, _, _ => False
  | e, a, w => Q e a w
theorem calm_out {Q : Exit → Act → World → Prop} (x : SX) (a : Act) (w : World) : calm Q x.out a w = Q x.out a w := by cases x <;> rfl
theorem anyS_ok (ok : cx.Ok ρ) (hsums : SumsOk cx ρ) {go : Bool → Code → St → Tree} (hgo : ∀ inr, Goes cx ρ ys inr (go inr)) {inr : Bool} {F : Fence} (hF : FOk inr F) {n : Nat} {Q : Exit → Act → World → Prop} {ops : Array Oper} (hpl : plainOps ops = true)
    {H0 : List (Nat × Blk)} {β0 : Lay} {wh : World} (h0 : Held cx ρ β0 H0 wh) :
    ∀ (m : Nat) (listed : Array Bool) {L : Lst} {s : St} {β : Lay} {a : Act} {w : World}, β0.le β → (∀ b k, lk H0 b = some k → lk s.H b = some k) → RelS cx ρ ρ.B ρ.w0 D0 ys L s β a w → (anyS cx ys H0 go ops m listed s).Holds ρ (Post cx ρ ρ.B ρ.w0 D0 ys β (calm Q)) →
      anyH F n cx.P ops (calm Q) (Held cx ρ β0 H0) m listed a w := by
  have hQ : ∀ c a a' w, calm Q (.panic c) a' w → calm Q (.panic c) a w := fun _ _ _ _ h => h
  have hplain := plainOps_ok hpl
  have hheld : ∀ {L : Lst} {s : St} {β : Lay} {a : Act} {w : World}, β0.le β → (∀ b k, lk H0 b = some k → lk s.H b = some k) → RelS cx ρ ρ.B ρ.w0 D0 ys L s β a w → Held cx ρ β0 H0 w :=
    fun hle hH hR b k hb => (h0 b k hb).back hle (hR.wr.blk b k (hH b k hb))
  intro m
  induction m with
  | zero =>
    intro listed L s β a w hle hH hR h
    unfold anyS at h
    split at h
    · rename_i hr; exact anyH_done hr (hheld hle hH hR) (h β L a w (Lay.le_refl _) hR) _
    · exact h.elim
  | succ m ih =>
    intro listed L s β a w hle hH hR h
    unfold anyS at h
    split at h
    · rename_i hr; exact anyH_done hr (hheld hle hH hR) (h β L a w (Lay.le_refl _) hR) _
    · rename_i rs hne
      split at h
      · rename_i i s' hi
        obtain ⟨hm, ht⟩ := takeS_ok hi
        obtain ⟨o, v, ho, hf, hy, hR', hH'⟩ := tryS_ok ok hR hle hH (hheld hle hH hR) ht
        exact anyH_first (fun f => hF.fn f) ho hplain hQ m listed a w (Region.free_spec ho hf) hm hy (hheld hle hH hR) (ih _ hle (by rw [hH']; exact hH) hR' h)
      · refine ⟨hheld hle hH hR, fun hr => absurd hr (by intro e; exact hne e), ?_⟩
        intro i hi
        have hi' := allS_ok h i hi
        unfold wpOpIn
        cases ho : ops[i]? with
        | none => rw [ho] at hi'; exact hi'.elim
        | some o =>
          rw [ho] at hi'
          refine stepS_ok ok hsums hgo hF hR ?_ hi'
          intro s' β' L' a' w' hle' hR' hh
          unfold heldS at hh
          split at hh
          · rename_i hbr
            exact ih _ (Lay.le_trans hle hle') (broken_ok hbr) hR' (Tree.holds_mono (fun x s hp => Post.le hle' hp) _ hh)
          · exact hh.elim
theorem holdS_ok {t : List (Nat × Blk) → Tree} {Q : SX → St → Prop} {H : List (Nat × Blk)} : ∀ (m : Nat) (H0 : List (Nat × Blk)), (∀ b k, lk H0 b = some k → lk H b = some k) → (holdS t m H0).Holds ρ Q → ∃ H1, (∀ b k, lk H1 b = some k → lk H b = some k) ∧ (t H1).Holds ρ Q
  | 0, _, _, h => ⟨[], (by intro b k h; cases h), h⟩
  | m + 1, H0, hH, h => by
    unfold holdS at h
    split at h
    · exact ⟨H0, hH, h⟩
    · exact holdS_ok m _ (fun b k hb => by
        rw [lk_delH] at hb
        split at hb
        · cases hb
        · exact hH b k hb) h
theorem loopS_ok {inr : Bool} {go : Code → St → Tree} (hgo : Goes cx ρ ys inr go) {F : Fence} (hF : FOk inr F) {n : Nat} {Q : Exit → Act → World → Prop} {b : Code} : ∀ (m : Nat) {L : Lst} {s : St} {β : Lay} {a : Act} {w : World}, RelS cx ρ ρ.B ρ.w0 D0 ys L s β a w →
    (loopS go b m s).Holds ρ (Post cx ρ ρ.B ρ.w0 D0 ys β Q) → Code.roundsIn F n cx.P b Q m a w
  | 0, _, _, _, _, _, _, h => h.elim
  | m + 1, L, s, β, a, w, hR, h => by
    rw [roundsIn_succ]
    refine hgo F n hF D0 L b s β a w _ hR (Tree.holds_mono ?_ _ (Tree.holds_bind _ h))
    intro x s1 hp β' L' a' w' hle hR'
    cases x with
    | normal => exact loopS_ok hgo hF m hR' (Tree.holds_mono (fun x s hp => Post.le hle hp) _ hp)
    | exit id => exact hp β' L' a' w' hle hR'
    | ret => exact hp β' L' a' w' hle hR'
/-- a range over a function -/
theorem rangeS_ok {go : List (Nat × Rec) → Code → St → Tree} (hgo : ∀ ys, Goes cx ρ ys false (go ys)) {n : Nat} {Q : Exit → Act → World → Prop} {g : Operand} {ps : Array Tmp} {assign body : Code} (hR : RelS cx ρ ρ.B ρ.w0 D0 ys L s β a w)
    (h : (rangeS cx ys go g ps assign body s).Holds ρ (Post cx ρ ρ.B ρ.w0 D0 ys β Q)) : (Code.rangeFunc g ps assign body).wpIn Fence.wide n cx.P Q a w := by
  unfold rangeS at h
  split at h
  · rename_i f x y hfn
    obtain ⟨p, q, hp, hq, hfv⟩ := fn_ok (opc_ok hR.pc (hR.ev g) hfn)
    split at h
    · rename_i fn hfun
      split at h
      · exact h.elim
      · rename_i hname
        split at h
        · rename_i c hbody
          split at h
          · rename_i hle
            have hle := Nat.le_of_ble_eq_true hle
            refine wpIn_rangeFunc ?_
            intro fn0 _
            obtain ⟨lo, hlo⟩ : ∃ lo : Loop, lo = { state := .ready, pending := none, fn := fn0, tmps := a.tmps, params := ps, assign := assign, body := body, defers := w.heap.size } := ⟨_, rfl⟩
            have hname' : fn.name ≠ "runtime.NumGoroutine" := by simpa using hname
            have hnew : β.put s.n (w.heap.size + 1, 0) s.n = some (w.heap.size + 1, 0) := by simp [Lay.put]
            have hlep := Lay.le_put hR.wr.fresh (w.heap.size + 1, 0)
            have hargs : denA ρ (β.put s.n (w.heap.size + 1, 0)) (ptrSV x ++ (SV.p (.c (.yld s.n)) :: ptrSV y)) = some (p ++ (Value.func (.yield (w.heap.size + 1)) #[] #[] :: q)) := by
              refine denA_append (ptrSV_ok (ptrs_le hlep hp)) ?_
              unfold denA
              simp only [SV.den, SP.den, SC.den, hnew, Option.map_some, ptrSV_ok (ρ := ρ) (ptrs_le hlep hq)]
            have hltl : ∀ p ∈ L.ls, p.1 < w.heap.size := fun p hp => heap_lt (hR.wr.ls p hp).2
            have hltd : ∀ D ∈ L.ds, D < w.heap.size := fun D hD => heap_lt (hR.wr.ds D hD).2
            have hold : ∀ b r, lk ys b = some r → b ≠ s.n := by
              rintro b r hb rfl
              obtain ⟨l, c, _, _, h1, _⟩ := hR.loops.each _ r hb
              rw [hR.wr.fresh s.n (Nat.le_refl _)] at h1
              cases h1
            have hW1 : WR cx.P ρ ρ.B ρ.w0 ⟨w.heap.size :: L.ds, (w.heap.size + 1, lo) :: L.ls⟩ (β.put s.n (w.heap.size + 1, 0)) s.H (s.n + 1) ((w.alloc (.deferred (some []))).alloc (.loop lo)) := by
              refine WR.number (WR.newObj (L := ⟨w.heap.size :: L.ds, L.ls⟩) (o := .loop lo) (L' := ⟨w.heap.size :: L.ds, (w.heap.size + 1, lo) :: L.ls⟩) (WR.newObj hR.wr (o := .deferred (some [])) (L' := ⟨w.heap.size :: L.ds, L.ls⟩) ?_ (fun p hp => .inl hp)) (fun D hD => .inl hD) ?_) _
              · intro D hD
                rcases List.mem_cons.1 hD with rfl | hD
                · exact .inr ⟨rfl, rfl⟩
                · exact .inl hD
              · intro p hp
                rcases List.mem_cons.1 hp with rfl | hp
                · exact .inr ⟨by simp, rfl⟩
                · exact .inl hp
            refine ⟨w.heap.size + 1, [mark w.heap.size], (w.alloc (.deferred (some []))).alloc (.loop lo), { target := .fn (.func f) q.toArray, args := p.toArray ++ #[.func (.yield (w.heap.size + 1)) #[] #[]] }, (w.alloc (.deferred (some []))).alloc (.loop lo), f,
              (p ++ (Value.func (.yield (w.heap.size + 1)) #[] #[] :: q)).toArray, (w.alloc (.deferred (some []))).alloc (.loop lo), ?_, ?_, fun _ _ => trivial, ?_, fun e => (by cases e), ?_⟩
            · rw [hlo]; exact run_enterLoop_outer _ _ _ _ _
            · simp only [resolve, hfv]
              simp [go_sem]
            · have e : p.toArray ++ #[Value.func (.yield (w.heap.size + 1)) #[] #[]] ++ q.toArray = (p ++ (Value.func (.yield (w.heap.size + 1)) #[] #[] :: q)).toArray := by apply Array.ext'; simp
              simp only [invoke, callFunc]
              rw [← e]
              simp [hfun, hname', hbody]
            · refine callsIn_of_wp_marks hfun hbody trivial ?_
              refine hgo _ Fence.wide (n - 1) rfl _ _ c _ _ _ _ _ (enter_ok (ys := (s.n, { F := s.F, nt := s.nt, ps := ps.toList, assign := assign, body := body }) :: ys) (lp := (s.n, .ready) :: s.lp) hW1 hR.pc ?_ hargs hle) ?_
              · refine ⟨fun b r hb => ?_, fun b b' r r' u v hb hb' hu hv e => ?_⟩
                · rw [lk_cons] at hb
                  by_cases eb : b = s.n
                  · rw [if_pos eb] at hb
                    cases hb
                    subst eb
                    refine ⟨_, _, lo, .ready, hnew, List.mem_cons_self, by rw [lk_cons, if_pos rfl], ?_⟩
                    rw [hlo]
                    exact ⟨rfl, rfl, rfl, hR.size, fun t v hv => by obtain ⟨u, hu, ht⟩ := hR.frame t v hv; exact ⟨u, SV.den_le hlep hu, ht⟩, rfl, rfl⟩
                  · rw [if_neg eb] at hb
                    obtain ⟨l, c, lo', st, h1, h2, h3, h4⟩ := hR.loops.each b r hb
                    exact ⟨l, c, lo', st, hlep _ _ h1, List.mem_cons_of_mem _ h2, by rw [lk_cons, if_neg eb]; exact h3, h4.le hlep⟩
                · rw [lk_cons] at hb hb'
                  have away : ∀ b r u, lk ys b = some r → β.put s.n (w.heap.size + 1, 0) b = some u → β b = some u ∧ u.1 < w.heap.size := by
                    intro b r u hb hu
                    obtain ⟨l, c, lo', st, h1, h2, _⟩ := hR.loops.each b r hb
                    rw [hlep _ _ h1] at hu
                    cases hu
                    exact ⟨h1, hltl _ h2⟩
                  by_cases eb : b = s.n <;> by_cases ec : b' = s.n
                  · omega
                  · rw [if_neg ec] at hb'
                    obtain ⟨_, h1⟩ := away _ _ _ hb' hv
                    subst eb
                    rw [hnew] at hu; cases hu
                    have e : w.heap.size + 1 = v.1 := e
                    omega
                  · rw [if_neg eb] at hb
                    obtain ⟨_, h1⟩ := away _ _ _ hb hu
                    subst ec
                    rw [hnew] at hv; cases hv
                    have e : u.1 = w.heap.size + 1 := e
                    omega
                  · rw [if_neg eb] at hb; rw [if_neg ec] at hb'
                    exact hR.loops.inj b b' r r' u v hb hb' (away _ _ _ hb hu).1 (away _ _ _ hb' hv).1 e
              · refine Tree.holds_mono ?_ _ (Tree.holds_bind _ h)
                intro xx s1 hret β2 L2 a2 w2 hle2 hR2
                have hre : ∀ v, resV cx.P fn s1 = some v → (match lk s1.lp s.n with
                    | some .ready => Tree.leaf .normal { s with pc := s1.pc, lp := s1.lp, H := gcH s.n .undef s1.H, n := s1.n }
                    | some .ret => .leaf .ret { s with pc := s1.pc, lp := s1.lp, H := gcH s.n .undef s1.H, n := s1.n }
                    | some (.out id) => .leaf (.exit id) { s with pc := s1.pc, lp := s1.lp, H := gcH s.n .undef s1.H, n := s1.n }
                    | _ => .fail 52).Holds ρ (Post cx ρ ρ.B ρ.w0 D0 ys β Q) →
                    LeavesInM Fence.wide (n - 1) cx.P fn a2.tmps (rangePost Fence.wide n cx.P (w.heap.size + 1) Q { a with defers := [mark w.heap.size] ++ a.defers }) a2.defers .returning w2 := by
                  intro v hv hend
                  obtain ⟨ds, h1, h2, h3⟩ := hR2.marks.own
                  rw [h1]
                  refine leaves_ok hv hR2.frame (fun w3 xv _ hW3 => ?_) ds L2 w2 h2 h3 hR2.marks.old rfl hR2.wr
                  obtain ⟨l2, c2, lo2, st2, hβ2, hlo2, hst2, hli2⟩ := hR2.loops.each s.n _ (by rw [lk_cons, if_pos rfl])
                  rw [hle2 _ _ hnew] at hβ2
                  cases hβ2
                  obtain ⟨hB2, hheap2⟩ := hW3.ls _ hlo2
                  have hle := Lay.le_trans hlep hle2
                  have hnb : st2 ≠ .busy → ∃ w4, (Instr.endLoop (w.heap.size + 1)).run cx.P w3 = .ok st2.pend w4 ∧
                      RelS cx ρ ρ.B ρ.w0 D0 ys ⟨w.heap.size :: L.ds, L2.ls.filter (fun p => p.1 != w.heap.size + 1)⟩ { s with pc := s1.pc, lp := s1.lp, H := gcH s.n .undef s1.H, n := s1.n } β2 { a with defers := [mark w.heap.size] ++ a.defers } w4 := by
                    intro hb
                    have hend := run_endLoop (P := cx.P) hheap2 (by rw [hli2.state]; intro e; cases st2 <;> first | exact hb rfl | cases e)
                    rw [hli2.pend] at hend
                    refine ⟨_, hend, fun t v hv => by obtain ⟨u, hu, ht⟩ := hR.frame t v hv; exact ⟨u, SV.den_le hle hu, ht⟩, hR.size, ?_, hR2.pc, ⟨fun b r hb' => ?_, ?_⟩, ?_⟩
                    · refine (hW3.putObj (L' := ⟨w.heap.size :: L.ds, L2.ls.filter (fun p => p.1 != w.heap.size + 1)⟩) hheap2 (by intro _ _ _ e; cases e) hB2 (fun D hD => ⟨hD, ?_⟩) (fun p hp => ?_)).less fun b k h => keepH_lk _ _ b k _ h
                      · rintro rfl
                        have := (hW3.ds _ hD).2
                        rw [hheap2] at this
                        cases this
                      · obtain ⟨q1, q2⟩ := List.mem_filter.1 hp
                        exact .inl ⟨q1, by simpa using q2⟩
                    · have hbn := hold b r hb'
                      have hb2 : lk ((s.n, { F := s.F, nt := s.nt, ps := ps.toList, assign := assign, body := body }) :: ys) b = some r := by rw [lk_cons, if_neg hbn]; exact hb'
                      obtain ⟨l3, c3, lo3, st3, k1, k2, k3, k4⟩ := hR2.loops.each b r hb2
                      refine ⟨l3, c3, lo3, st3, k1, List.mem_filter.2 ⟨k2, ?_⟩, k3, k4⟩
                      have : l3 ≠ w.heap.size + 1 := fun e => hbn (hR2.loops.inj b s.n r _ _ _ hb2 (by rw [lk_cons, if_pos rfl]) k1 (hle2 _ _ hnew) e)
                      simpa using this
                    · intro b b' r r' u v hb1 hb2 hu hv e
                      exact hR2.loops.inj b b' r r' u v (by rw [lk_cons, if_neg (hold b r hb1)]; exact hb1) (by rw [lk_cons, if_neg (hold b' r' hb2)]; exact hb2) hu hv e
                    · obtain ⟨es, e1, e2, e3⟩ := hR.marks.own
                      refine ⟨⟨w.heap.size :: es, by rw [e1]; rfl, List.nodup_cons.2 ⟨fun hm => ?_, e2⟩, fun D hD => ?_⟩, fun D hD => List.mem_cons_of_mem _ (hR.marks.old D hD)⟩
                      · exact absurd (hltd _ (e3 _ hm).1) (Nat.lt_irrefl _)
                      · rcases List.mem_cons.1 hD with rfl | hD
                        · exact ⟨List.mem_cons_self, fun hm => absurd (hltd _ (hR.marks.old _ hm)) (Nat.lt_irrefl _)⟩
                        · exact ⟨List.mem_cons_of_mem _ (e3 D hD).1, (e3 D hD).2⟩
                  rw [hst2] at hend
                  cases st2 with
                  | busy => exact hend.elim
                  | ready =>
                    obtain ⟨w4, he, hr4⟩ := hnb (by intro e; cases e)
                    exact ⟨_, w4, he, hend β2 _ _ w4 hle hr4⟩
                  | ret =>
                    obtain ⟨w4, he, hr4⟩ := hnb (by intro e; cases e)
                    exact ⟨_, w4, he, wpIn_ret (hend β2 _ _ w4 hle hr4)⟩
                  | out id =>
                    obtain ⟨w4, he, hr4⟩ := hnb (by intro e; cases e)
                    exact ⟨_, w4, he, wpIn_exit (hend β2 _ _ w4 hle hr4)⟩
                unfold rangeEnd at hret
                cases xx with
                | exit id => exact hret.elim
                | normal =>
                  simp only [] at hret
                  split at hret
                  · rename_i v hv; exact hre v hv hret
                  · exact hret.elim
                | ret =>
                  simp only [] at hret
                  split at hret
                  · rename_i v hv; exact hre v hv hret
                  · exact hret.elim
          · exact h.elim
        · exact h.elim
    · exact h.elim
  · exact h.elim
theorem run_ok (ok : cx.Ok ρ) (hsums : SumsOk cx ρ) (hm : cx.P.follows .mixedOrders = true) : ∀ n ys inr, Goes cx ρ ys inr (run cx n ys inr)
  | 0, _, _ => by intro F m hF D0 L c s β a w Q hR h; exact h.elim
  | n + 1, ys, inr => by
    have ih := run_ok ok hsums hm n ys inr
    have ihc := run_ok ok hsums hm n ys
    have ihy := fun ys => run_ok ok hsums hm n ys false
    intro F m hF D0 L c s β a w Q hR h
    unfold run at h
    split at h
    · exact wpIn_skip (h β L a w (Lay.le_refl _) hR)
    · rename_i id ops
      refine wpIn_region (opsS_ok ok hsums ihc hF ops.toList _ ?_ hR h)
      apply List.ext_getElem?
      intro i
      by_cases hi : i < ops.size
      · simp [hi]
      · simp [hi]
    · rename_i id ops
      split at h
      · rename_i hns
        refine wpIn_mono (Q := calm Q) ?_ ?_
        · obtain ⟨H1, hH1, h1⟩ := holdS_ok (H := s.H) _ _ (by
            intro b k hb
            unfold heldAt at hb
            split at hb
            · exact hb
            · cases hb) h
          refine wpIn_region_any hm (anyH_any _ _ _ _ (anyS_ok ok hsums ihc hF hns (H0 := H1) (β0 := β) (wh := w.drew) (fun b k hb => hR.wr.drew.blk b k (hH1 b k hb)) _ _ (a := a) (β := β) (L := L) (Lay.le_refl _) hH1 (⟨hR.frame, hR.size, hR.wr.drew, hR.pc, hR.loops, hR.marks⟩ : RelS cx ρ ρ.B ρ.w0 D0 ys L s β a w.drew) ?_))
          exact Tree.holds_mono (fun x s hp β' L' a' w' hle hr => by rw [calm_out]; exact hp β' L' a' w' hle hr) _ h1
        · intro e a w h; cases e <;> first | exact h | exact h.elim
      · exact h.elim
    · rename_i x y
      refine wpIn_seq (ih F m hF D0 L x s β a w _ hR (Tree.holds_mono ?_ _ (Tree.holds_bind _ h)))
      intro x s1 hp β' L' a' w' hle hR'
      cases x with
      | normal => exact ih F m hF D0 L' y s1 β' a' w' _ hR' (Tree.holds_mono (fun x s hp => Post.le hle hp) _ hp)
      | exit id => exact hp β' L' a' w' hle hR'
      | ret => exact hp β' L' a' w' hle hR'
    · rename_i c x y
      split at h
      · rename_i e he
        have hc := bool_ok (β := β) (opc_ok hR.pc (hR.ev c) he)
        unfold fork at h
        split at h
        · rename_i hd; exact wpIn_cond_true (by rw [hc, decT_ok hR.pc hd]) (ih F m hF D0 L x s β a w _ hR h)
        · rename_i hd; exact wpIn_cond_false (by rw [hc, decT_ok hR.pc hd]) (ih F m hF D0 L y s β a w _ hR h)
        · obtain ⟨h1, h2⟩ := branch_ok hR.pc h
          cases ht : e.tru ρ
          · exact wpIn_cond_false (by rw [hc, ht]) (ih F m hF D0 L y _ β a w _ (with_pc' hR (assume_ok hR.pc ht)) (h2 ht))
          · exact wpIn_cond_true (by rw [hc, ht]) (ih F m hF D0 L x _ β a w _ (with_pc' hR (assume_ok hR.pc ht)) (h1 ht))
      · exact h.elim
    · rename_i id b
      refine wpIn_block (ih F m hF D0 L b s β a w _ hR (Tree.holds_mono ?_ _ (Tree.holds_bind _ h)))
      intro x s1 hp β' L' a' w' hle hR'
      cases x with
      | normal => exact hp β' L' a' w' hle hR'
      | ret => exact hp β' L' a' w' hle hR'
      | exit j =>
        unfold outS at hp
        show if j = id then _ else _
        simp only [] at hp
        split at hp
        · rename_i e; rw [if_pos (Nat.eq_of_beq_eq_true e)]; exact hp β' L' a' w' hle hR'
        · rename_i e; rw [if_neg (by rintro rfl; simp at e)]; exact hp β' L' a' w' hle hR'
    · rename_i b
      exact wpIn_loop_rounds n (loopS_ok ih hF n hR h)
    · exact wpIn_exit (h β L a w (Lay.le_refl _) hR)
    · exact wpIn_ret (h β L a w (Lay.le_refl _) hR)
    · exact h.elim
    · split at h
      · exact h.elim
      · cases hF
        exact rangeS_ok ihy hR h
    · exact h.elim
theorem settle_ok {pc : PC} (h : PcOk ρ pc) {v : SV} : (settle pc v).den ρ β = v.den ρ β := by
  unfold settle
  split
  · rename_i e
    split
    · rename_i hd; have := dec_ok h hd; show some (Value.bool true) = some (Value.bool (e.tru ρ)); rw [this]
    · rename_i hd; have := dec_ok h hd; show some (Value.bool false) = some (Value.bool (e.tru ρ)); rw [this]
    · split
      · rename_i hp; have := prove_ok 8 h hp; show some (Value.bool true) = some (Value.bool (e.tru ρ)); rw [this]
      · rfl
  · rfl
/-- what is asked of a function's own run -/
theorem rets_ok {fn : Func} {QR : SV → List (Nat × Blk) → Prop} {Q : SX → St → Prop} (hq : ∀ x s v, (∀ id, x ≠ .exit id) → resV cx.P fn s = some v → QR (settle s.pc v) s.H → Q x s) : ∀ t : Tree, (t.rets cx.P fn).Holds ρ QR → t.Holds ρ Q
  | .fail _, h => h
  | .all x y, h => ⟨rets_ok hq x h.1, rets_ok hq y h.2⟩
  | .br c x y, h => by
    replace h : if c.tru ρ then (x.rets cx.P fn).Holds ρ QR else (y.rets cx.P fn).Holds ρ QR := h
    show if c.tru ρ then x.Holds ρ Q else y.Holds ρ Q
    split at h
    · rename_i hc; rw [if_pos hc]; exact rets_ok hq x h
    · rename_i hc; rw [if_neg hc]; exact rets_ok hq y h
  | .leaf x s, h => by
    unfold Tree.rets at h
    show Q x s
    cases x with
    | exit id => exact h.elim
    | normal =>
      simp only [] at h
      split at h
      · rename_i v hv; exact hq _ _ v (fun _ e => by cases e) hv h
      · exact h.elim
    | ret =>
      simp only [] at h
      split at h
      · rename_i v hv; exact hq _ _ v (fun _ e => by cases e) hv h
      · exact h.elim
theorem runF_calls (ok : cx.Ok ρ) (hsums : SumsOk cx ρ) (hm : cx.P.follows .mixedOrders = true) {fuel : Nat} {f : FuncId} {args : List SV} {H : List (Nat × Blk)} {n : Nat} {vals : List Value} (hW : WR cx.P ρ ρ.B ρ.w0 ⟨[], []⟩ β H n w) (ha : denA ρ β args = some vals)
    {R : Ending → World → Prop} (h : (runF cx fuel f args H n).Holds ρ fun v H' => ∀ β' w' n' x, β.le β' → WR cx.P ρ ρ.B ρ.w0 ⟨[], []⟩ β' H' n' w' → v.den ρ β' = some x → R (.returned x) w') : Calls cx.P f vals.toArray w R := by
  unfold runF at h
  split at h
  · rename_i fn hfun
    split at h
    · rename_i c hbody
      split at h
      · rename_i hle
        have hle := Nat.le_of_ble_eq_true hle
        refine callsIn_wide.1 (callsIn_of_wp_marks (n := 0) hfun hbody trivial ?_)
        refine run_ok ok hsums hm fuel [] false Fence.wide 0 rfl _ _ c _ β _ w _ (enter_ok (pc := assumes cx.ax (PC.start cx)) (lp := []) (ys := []) hW ok.start ⟨(by intro b r h; cases h), (by intro b c r r' x y h; cases h)⟩ ha hle) ?_
        refine rets_ok ?_ _ h
        intro x s v hx hv hR β' L' a' w' hle hr
        have key : LeavesInM Fence.wide 0 cx.P fn a'.tmps R a'.defers .returning w' := by
          obtain ⟨ds, h1, h2, h3⟩ := hr.marks.own
          rw [h1]
          refine leaves_ok hv hr.frame (fun w3 xv hxv hW3 => ?_) ds L' w' h2 h3 hr.marks.old rfl hr.wr
          exact hR β' w3 s.n xv hle (hW3.ofDs (fun D hD => by cases hD) (fun p hp => by cases hp)) (by rw [settle_ok hr.pc]; exact hxv)
        cases x with
        | exit id => exact absurd rfl (hx id)
        | normal => exact key
        | ret => exact key
      · exact h.elim
    · exact h.elim
  · exact h.elim
/-- of a run whose every end is the truth -/
def allTrue : RTree → Bool
  | .ret v _ => match v with
    | .p (.c (.bool .tt)) => true
    | _ => false
  | .br _ a b => match allTrue a with
    | true => allTrue b
    | false => false
  | .fail _ => false
  | .all a b => match allTrue a with
    | true => allTrue b
    | false => false
theorem allTrue_ok {QR : SV → List (Nat × Blk) → Prop} (hq : ∀ H, QR (.p (.c (.bool .tt))) H) : ∀ {t : RTree}, allTrue t = true → t.Holds ρ QR
  | .ret v H, h => by
    unfold allTrue at h
    split at h
    · exact hq H
    · cases h
  | .br c a b, h => by
    unfold allTrue at h
    split at h
    · rename_i ha
      show if c.tru ρ then a.Holds ρ QR else b.Holds ρ QR
      split
      · exact allTrue_ok hq ha
      · exact allTrue_ok hq h
    · cases h
  | .fail _, h => by cases h
  | .all a b, h => by
    unfold allTrue at h
    split at h
    · rename_i ha; exact ⟨allTrue_ok hq ha, allTrue_ok hq h⟩
    · cases h
/-- no block, nothing laid out -/
def noLay : Lay := fun _ => none
theorem WR.start (P : Program) (ρ : Env) (w : World) (n : Nat) : WR P ρ w.heap.size w ⟨[], []⟩ noLay [] n w :=
  ⟨Below.refl _ _, Nat.le_refl _, fun _ _ => rfl, (by intro b c k k' x y h; cases h), (by intro b k h; cases h), (by intro D h; cases h), (by intro p h; cases h)⟩
/-- a function whose arguments are values: what it hands back -/
theorem runF_ret (ok : cx.Ok ρ) (hsums : SumsOk cx ρ) (hm : cx.P.follows .mixedOrders = true) (hB : ρ.B = w.heap.size) (hw : ρ.w0 = w) {fuel : Nat} {f : FuncId} {args : List SV} {vals : List Value} (ha : denA ρ noLay args = some vals) {x : Value}
    (h : (runF cx fuel f args [] 0).Holds ρ fun v _ => ∀ β y, v.den ρ β = some y → y = x) : Calls cx.P f vals.toArray w (Ret x w) := by
  refine runF_calls (fuel := fuel) (args := args) ok hsums hm (β := noLay) (H := []) (n := 0) (by rw [hB, hw]; exact WR.start cx.P ρ w 0) ha ?_
  have : ∀ {t : RTree}, (t.Holds ρ fun v _ => ∀ β y, v.den ρ β = some y → y = x) → t.Holds ρ fun v H' => ∀ β' w' n' x', noLay.le β' → WR cx.P ρ ρ.B ρ.w0 ⟨[], []⟩ β' H' n' w' → v.den ρ β' = some x' → Ret x w (.returned x') w' := by
    intro t
    induction t with
    | ret v H =>
      intro h β' w' n' x' _ hW hv
      have hx := h β' x' hv
      subst hx
      have := hW.below
      rw [hB, hw] at this
      exact ⟨rfl, this⟩
    | br c a b iha ihb =>
      intro h
      replace h : if c.tru ρ then _ else _ := h
      show if c.tru ρ then _ else _
      split at h
      · rename_i hc; rw [if_pos hc]; exact iha h
      · rename_i hc; rw [if_neg hc]; exact ihb h
    | fail _ => exact id
    | all a b iha ihb => exact fun h => ⟨iha h.1, ihb h.2⟩
  exact this h
theorem runF_true (ok : cx.Ok ρ) (hsums : SumsOk cx ρ) (hm : cx.P.follows .mixedOrders = true) (hB : ρ.B = w.heap.size) (hw : ρ.w0 = w) {fuel : Nat} {f : FuncId} {args : List SV} {vals : List Value} (ha : denA ρ noLay args = some vals)
    (h : allTrue (runF cx fuel f args [] 0) = true) : Calls cx.P f vals.toArray w (Ret (.bool true) w) :=
  runF_ret ok hsums hm hB hw ha (allTrue_ok (fun _ _ _ hy => (Option.some.inj hy).symm) h)
/-- of no letters -/
def env0 (w : World) : Env := ⟨fun _ => 0, fun _ => false, fun _ => .nilFunc, fun _ _ _ _ _ => 0, fun _ _ _ _ _ => false, w.heap.size, w, fun _ => (none, 0), fun _ => ⟨#[]⟩⟩
end
end Go.Proofs.YtopfaapcekiojaaGreat.Sym

/- Contracts that a run is given: how they are told apart, and that they are so. -/
namespace Go.Proofs.YtopfaapcekiojaaGreat.Sym
open Go Go.RowKit Go.Proofs.YtopfaapcekiojaaGreat

/-- a contract at given arguments -/
def patS (pat : List SV) (v : SV) (_ : PC) (_ : List (Nat × Blk)) (args : List SV) : Option SV := match lSame SV.same args pat with
  | true => some v
  | false => none
def SumOk (cx : Ctx) (ρ : Env) (f : FuncId) (g : PC → List (Nat × Blk) → List SV → Option SV) : Prop :=
  ∀ pc H args v, g pc H args = some v → PcOk ρ pc → ∀ (L : Lst) (β : Lay) vals w n, WR cx.P ρ ρ.B ρ.w0 L β H n w → denA ρ β args = some vals → ∃ x, v.den ρ β = some x ∧ Calls cx.P f vals.toArray w (Ret x w)
theorem sums_of {cx : Ctx} {ρ : Env} (h : ∀ p ∈ cx.sums, SumOk cx ρ p.1 p.2) : SumsOk cx ρ := fun f g hf => h (f, g) (lk_mem hf)
theorem patS_ok {cx : Ctx} {ρ : Env} {f : FuncId} {pat : List SV} {v : SV} (h : ∀ (β : Lay) vals w, Below ρ.B ρ.w0 w → denA ρ β pat = some vals → ∃ x, v.den ρ β = some x ∧ Calls cx.P f vals.toArray w (Ret x w)) : SumOk cx ρ f (patS pat v) := by
  intro pc H args u hg _ L β vals w n hW ha
  unfold patS at hg
  split at hg
  · rename_i hs
    cases hg
    rw [lSame_eq (fun _ _ h => SV.same_eq h) hs] at ha
    exact h β vals w hW.below ha
  · cases hg
theorem denL_cons {ρ : Env} {β : Lay} {x : SC} {r : List SC} {vs : List Value} (h : denL ρ β (x :: r) = some vs) : ∃ v l, x.den ρ β = some v ∧ denL ρ β r = some l ∧ vs = v :: l := by
  unfold denL at h
  cases hx : x.den ρ β with
  | none => simp [hx] at h
  | some v =>
    cases hr : denL ρ β r with
    | none => simp [hx, hr] at h
    | some l => simp only [hx, hr] at h; cases h; exact ⟨v, l, rfl, rfl, rfl⟩
theorem denA_cons {ρ : Env} {β : Lay} {x : SV} {r : List SV} {vs : List Value} (h : denA ρ β (x :: r) = some vs) : ∃ v l, x.den ρ β = some v ∧ denA ρ β r = some l ∧ vs = v :: l := by
  unfold denA at h
  cases hx : x.den ρ β with
  | none => simp [hx] at h
  | some v =>
    cases hr : denA ρ β r with
    | none => simp [hx, hr] at h
    | some l => simp only [hx, hr] at h; cases h; exact ⟨v, l, rfl, rfl, rfl⟩
def isStr : SC → Bool
  | .str _ | .strv _ => true
  | _ => false
theorem str_ok {ρ : Env} {β : Lay} {x : SC} {u : Value} (h : isStr x = true) (hu : x.den ρ β = some u) : ∃ z, u = .string z := by
  unfold isStr at h
  split at h
  · exact ⟨_, (Option.some.inj hu).symm⟩
  · exact ⟨_, (Option.some.inj hu).symm⟩
  · cases h
end Go.Proofs.YtopfaapcekiojaaGreat.Sym

/- Contracts by runs: a function is run once over letters; what it gives is what it gives of whatever stands for the letters. -/
namespace Go.Proofs.YtopfaapcekiojaaGreat.Sym
open Go Go.RowKit Go.Proofs.YtopfaapcekiojaaGreat
noncomputable section

abbrev Sub := List (Nat × SE)
def subI (σ : Sub) (i : Nat) : SE := match lk σ i with
  | some e => e
  | none => .var i
def subB (σ : Sub) (i : Nat) : SE := match lk σ i with
  | some e => e
  | none => .bvar i
def SE.sub (pc : PC) (σ τ : Sub) : SE → SE
  | .lit n => .lit n
  | .var i => subI σ i
  | .bvar i => subB τ i
  | .tt => .tt
  | .ff => .ff
  | .un o a => match o with
    | .wrap k => mkWrap pc k (a.sub pc σ τ)
    | .shr n => mkShr pc n (a.sub pc σ τ)
    | .b2i => mkB2i (a.sub pc σ τ)
    | .not => mkNot (a.sub pc σ τ)
    | .bits l n => mkBits pc l n (a.sub pc σ τ)
    | .sext n => mkSext pc n (a.sub pc σ τ)
  | .bin o a b => match o with
    | .eq => mkEq pc (a.sub pc σ τ) (b.sub pc σ τ)
    | .lt => mkLt pc (a.sub pc σ τ) (b.sub pc σ τ)
    | .le => mkLe pc (a.sub pc σ τ) (b.sub pc σ τ)
    | .and => mkAnd (a.sub pc σ τ) (b.sub pc σ τ)
    | .or => mkOr (a.sub pc σ τ) (b.sub pc σ τ)
    | .beq => mkBeq (a.sub pc σ τ) (b.sub pc σ τ)
    | .mt m v => mkMt pc m v (a.sub pc σ τ)
    | .add => mkAdd pc (a.sub pc σ τ) (b.sub pc σ τ)
    | .sub => mkSub (a.sub pc σ τ) (b.sub pc σ τ)
    | .mul => mkMul (a.sub pc σ τ) (b.sub pc σ τ)
    | .quo => match b.sub pc σ τ with
      | .lit m => mkQuo pc (a.sub pc σ τ) m
      | y => mkInt .quo (a.sub pc σ τ) y
    | .rem => match b.sub pc σ τ with
      | .lit m => mkRem pc (a.sub pc σ τ) m
      | y => mkInt .rem (a.sub pc σ τ) y
    | .band k => mkBand pc k (a.sub pc σ τ) (b.sub pc σ τ)
    | .bor k => mkBor pc k (a.sub pc σ τ) (b.sub pc σ τ)
    | .cat m => mkCat pc m (a.sub pc σ τ) (b.sub pc σ τ)
    | o => mkInt o (a.sub pc σ τ) (b.sub pc σ τ)
  | .ite c a b => mkIte (c.sub pc σ τ) (a.sub pc σ τ) (b.sub pc σ τ)
  | .bite c a b => mkBite (c.sub pc σ τ) (a.sub pc σ τ) (b.sub pc σ τ)
  | .app f a b c d => match a with
    | .un (.bits 0 64) x => .app f (wrap64S (x.sub pc σ τ)) (b.sub pc σ τ) (c.sub pc σ τ) (d.sub pc σ τ)
    | a => .app f (a.sub pc σ τ) (b.sub pc σ τ) (c.sub pc σ τ) (d.sub pc σ τ)
  | .papp f a b c d => .papp f (a.sub pc σ τ) (b.sub pc σ τ) (c.sub pc σ τ) (d.sub pc σ τ)
/-- of one kind throughout: (a number, a truth) -/
def SE.ws : SE → Bool × Bool
  | .lit _ | .var _ => (true, false)
  | .bvar _ | .tt | .ff => (false, true)
  | .un o a => match o with
    | .wrap _ | .shr _ | .bits _ _ | .sext _ => (a.ws.1, false)
    | .b2i => (a.ws.2, false)
    | .not => (false, a.ws.2)
  | .bin o a b => match o with
    | .eq | .lt | .le => (false, a.ws.1 && b.ws.1)
    | .and | .or | .beq => (false, a.ws.2 && b.ws.2)
    | .mt _ _ => (false, a.ws.1)
    | _ => (a.ws.1 && b.ws.1, false)
  | .ite c a b => (c.ws.2 && (a.ws.1 && b.ws.1), false)
  | .bite c a b => (false, c.ws.2 && (a.ws.2 && b.ws.2))
  | .app _ a b c d => (a.ws.1 && (b.ws.1 && (c.ws.1 && d.ws.1)), false)
  | .papp _ a b c d => (false, a.ws.1 && (b.ws.1 && (c.ws.1 && d.ws.1)))
/-- what the letters stand for, put in -/
def Env.put (ρ : Env) (σ τ : Sub) : Env := { ρ with i := fun i => (subI σ i).int ρ, b := fun i => (subB τ i).tru ρ }
theorem sub_ok' {pc : PC} {ρ : Env} (ok : PcOk ρ pc) (σ τ : Sub) : ∀ e : SE, (e.ws.1 = true → (e.sub pc σ τ).int ρ = e.int (ρ.put σ τ)) ∧ (e.ws.2 = true → (e.sub pc σ τ).tru ρ = e.tru (ρ.put σ τ)) := by
  intro e
  induction e with
  | lit n => exact ⟨fun _ => rfl, fun h => by cases h⟩
  | var i => exact ⟨fun _ => rfl, fun h => by cases h⟩
  | bvar i => exact ⟨fun h => (by cases h), fun _ => rfl⟩
  | tt => exact ⟨fun h => (by cases h), fun _ => rfl⟩
  | ff => exact ⟨fun h => (by cases h), fun _ => rfl⟩
  | un o a ih =>
    cases o with
    | wrap k => exact ⟨fun h => by show (mkWrap pc k _).int ρ = k.wrap (a.int _); rw [mkWrap_ok ok, ih.1 h], fun h => by cases h⟩
    | shr n => exact ⟨fun h => by show (mkShr pc n _).int ρ = _; rw [mkShr_ok ok, shr_int, ih.1 h], fun h => by cases h⟩
    | bits l n => exact ⟨fun h => by show (mkBits pc l n _).int ρ = _; rw [mkBits_ok ok, bits_int, ih.1 h], fun h => by cases h⟩
    | sext n => exact ⟨fun h => by show (mkSext pc n _).int ρ = _; rw [mkSext_ok ok, sext_int, ih.1 h], fun h => by cases h⟩
    | b2i => exact ⟨fun h => by show (mkB2i _).int ρ = if a.tru _ then 1 else 0; rw [mkB2i_ok, ih.2 h], fun h => by cases h⟩
    | not => exact ⟨fun h => (by cases h), fun h => by show (mkNot _).tru ρ = !(a.tru _); rw [mkNot_ok, ih.2 h]⟩
  | bin o a b iha ihb =>
    have two : ∀ {p q : Bool}, (p && q) = true → p = true ∧ q = true := fun h => by simpa using h
    cases o with
    | eq => exact ⟨fun h => (by cases h), fun h => by have h := two h; show (mkEq pc _ _).tru ρ = (a.int _ == b.int _); rw [mkEq_ok ok, iha.1 h.1, ihb.1 h.2]⟩
    | lt => exact ⟨fun h => (by cases h), fun h => by have h := two h; show (mkLt pc _ _).tru ρ = decide (a.int _ < b.int _); rw [mkLt_ok ok, iha.1 h.1, ihb.1 h.2]⟩
    | le => exact ⟨fun h => (by cases h), fun h => by have h := two h; show (mkLe pc _ _).tru ρ = decide (a.int _ ≤ b.int _); rw [mkLe_ok ok, iha.1 h.1, ihb.1 h.2]⟩
    | and => exact ⟨fun h => (by cases h), fun h => by have h := two h; show (mkAnd _ _).tru ρ = (a.tru _ && b.tru _); rw [mkAnd_ok, iha.2 h.1, ihb.2 h.2]⟩
    | or => exact ⟨fun h => (by cases h), fun h => by have h := two h; show (mkOr _ _).tru ρ = (a.tru _ || b.tru _); rw [mkOr_ok, iha.2 h.1, ihb.2 h.2]⟩
    | beq => exact ⟨fun h => (by cases h), fun h => by have h := two h; show (mkBeq _ _).tru ρ = (a.tru _ == b.tru _); rw [mkBeq_ok, iha.2 h.1, ihb.2 h.2]⟩
    | mt m v => exact ⟨fun h => (by cases h), fun h => by show (mkMt pc m v _).tru ρ = mtV m v (a.int _); rw [mkMt_ok ok, iha.1 h]⟩
    | add => exact ⟨fun h => by have h := two h; show (mkAdd pc _ _).int ρ = _; rw [mkAdd_ok ok, iha.1 h.1, ihb.1 h.2]; rfl, fun h => by cases h⟩
    | sub => exact ⟨fun h => by have h := two h; show (mkSub _ _).int ρ = _; rw [mkSub_ok, iha.1 h.1, ihb.1 h.2]; rfl, fun h => by cases h⟩
    | mul => exact ⟨fun h => by have h := two h; show (mkMul _ _).int ρ = _; rw [mkMul_ok, iha.1 h.1, ihb.1 h.2]; rfl, fun h => by cases h⟩
    | quo =>
      refine ⟨fun h => ?_, fun h => by cases h⟩
      have h := two h
      have hb := ihb.1 h.2
      show (match b.sub pc σ τ with | .lit m => mkQuo pc (a.sub pc σ τ) m | y => mkInt .quo (a.sub pc σ τ) y).int ρ = (a.int _).tdiv (b.int _)
      rw [← hb, ← iha.1 h.1]
      split
      · rename_i m hm; rw [mkQuo_ok ok, hm]; rfl
      · rw [mkInt_ok]; rfl
    | rem =>
      refine ⟨fun h => ?_, fun h => by cases h⟩
      have h := two h
      have hb := ihb.1 h.2
      show (match b.sub pc σ τ with | .lit m => mkRem pc (a.sub pc σ τ) m | y => mkInt .rem (a.sub pc σ τ) y).int ρ = (a.int _).tmod (b.int _)
      rw [← hb, ← iha.1 h.1]
      split
      · rename_i m hm; rw [mkRem_ok ok, hm]; rfl
      · rw [mkInt_ok]; rfl
    | band k => exact ⟨fun h => by have h := two h; show (mkBand pc k _ _).int ρ = _; rw [mkBand_ok ok, iha.1 h.1, ihb.1 h.2]; rfl, fun h => by cases h⟩
    | bor k => exact ⟨fun h => by have h := two h; show (mkBor pc k _ _).int ρ = _; rw [mkBor_ok ok, iha.1 h.1, ihb.1 h.2]; rfl, fun h => by cases h⟩
    | cat m => exact ⟨fun h => by have h := two h; show (mkCat pc m _ _).int ρ = _; rw [mkCat_ok ok, iha.1 h.1, ihb.1 h.2]; rfl, fun h => by cases h⟩
    | bxor k => exact ⟨fun h => by have h := two h; show (mkInt _ _ _).int ρ = _; rw [mkInt_ok, iha.1 h.1, ihb.1 h.2]; rfl, fun h => by cases h⟩
    | bclr k => exact ⟨fun h => by have h := two h; show (mkInt _ _ _).int ρ = _; rw [mkInt_ok, iha.1 h.1, ihb.1 h.2]; rfl, fun h => by cases h⟩
  | ite c a b ihc iha ihb =>
    refine ⟨fun h => ?_, fun h => by cases h⟩
    simp only [SE.ws, Bool.and_eq_true] at h
    show (mkIte _ _ _).int ρ = if c.tru _ then a.int _ else b.int _
    rw [mkIte_ok, ihc.2 h.1, iha.1 h.2.1, ihb.1 h.2.2]
  | bite c a b ihc iha ihb =>
    refine ⟨fun h => (by cases h), fun h => ?_⟩
    simp only [SE.ws, Bool.and_eq_true] at h
    show (mkBite _ _ _).tru ρ = if c.tru _ then a.tru _ else b.tru _
    rw [mkBite_ok, ihc.2 h.1, iha.2 h.2.1, ihb.2 h.2.2]
  | app f a b c d iha ihb ihc ihd =>
    refine ⟨fun h => ?_, fun h => by cases h⟩
    simp only [SE.ws, Bool.and_eq_true] at h
    have h1 := iha.1 h.1
    have h2 := ihb.1 h.2.1
    have h3 := ihc.1 h.2.2.1
    have h4 := ihd.1 h.2.2.2
    unfold SE.sub
    split
    · rename_i x
      have e : (wrap64S (x.sub pc σ τ)).int ρ = (SE.un (.bits 0 64) x).int (ρ.put σ τ) := by
        rw [← h1]
        show _ = (mkBits pc 0 64 (x.sub pc σ τ)).int ρ
        rw [mkBits_ok ok, wrap64S_ok]
      show ρ.f f _ _ _ _ = ρ.f f (SE.int _ _) (b.int _) (c.int _) (d.int _)
      rw [← e, ← h2, ← h3, ← h4]
      rfl
    · show ρ.f f _ _ _ _ = ρ.f f (SE.int _ _) (b.int _) (c.int _) (d.int _)
      rw [← h1, ← h2, ← h3, ← h4]
      rfl
  | papp f a b c d iha ihb ihc ihd =>
    refine ⟨fun h => (by cases h), fun h => ?_⟩
    simp only [SE.ws, Bool.and_eq_true] at h
    show ρ.p f _ _ _ _ = ρ.p f (a.int _) (b.int _) (c.int _) (d.int _)
    rw [← iha.1 h.1, ← ihb.1 h.2.1, ← ihc.1 h.2.2.1, ← ihd.1 h.2.2.2]
    rfl
/-- a cell that a result may hold -/
def SC.wsC : SC → Bool
  | .int _ e => e.ws.1
  | .bool e => e.ws.2
  | .str _ | .nilp | .nils | .nilf | .strv _ | .var _ => true
  | _ => false
def SC.sub (pc : PC) (σ τ : Sub) : SC → SC
  | .int k e => .int k (e.sub pc σ τ)
  | .bool e => .bool (e.sub pc σ τ)
  | x => x
def subL (pc : PC) (σ τ : Sub) : List SC → List SC
  | [] => []
  | x :: r => x.sub pc σ τ :: subL pc σ τ r
def SP.sub (pc : PC) (σ τ : Sub) : SP → SP
  | .c x => .c (x.sub pc σ τ)
  | .agg l => .agg (subL pc σ τ l)
def subP (pc : PC) (σ τ : Sub) : List SP → List SP
  | [] => []
  | x :: r => x.sub pc σ τ :: subP pc σ τ r
def SV.sub (pc : PC) (σ τ : Sub) : SV → SV
  | .p x => .p (x.sub pc σ τ)
  | .tup l => .tup (subP pc σ τ l)
  | v => v
def wsL : List SC → Bool
  | [] => true
  | x :: r => x.wsC && wsL r
def SP.wsP : SP → Bool
  | .c x => x.wsC
  | .agg l => wsL l
def wsPs : List SP → Bool
  | [] => true
  | x :: r => x.wsP && wsPs r
def SV.wsV : SV → Bool
  | .p x => x.wsP
  | .tup l => wsPs l
  | _ => false
section
variable {pc : PC} {ρ : Env} (ok : PcOk ρ pc) (σ τ : Sub) {β β' : Lay}
include ok
theorem SC.sub_den {x : SC} (h : x.wsC = true) : (x.sub pc σ τ).den ρ β = x.den (ρ.put σ τ) β' := by
  cases x <;> first | (cases h; done) | rfl | skip
  · rename_i k e; show some (Value.int k _) = some (Value.int k _); rw [(sub_ok' ok σ τ e).1 h]
  · rename_i e; show some (Value.bool _) = some (Value.bool _); rw [(sub_ok' ok σ τ e).2 h]
theorem subL_den : ∀ {l : List SC}, wsL l = true → denL ρ β (subL pc σ τ l) = denL (ρ.put σ τ) β' l
  | [], _ => rfl
  | x :: r, h => by
    simp only [wsL, Bool.and_eq_true] at h
    show (match (x.sub pc σ τ).den ρ β, denL ρ β (subL pc σ τ r) with | some v, some l => some (v :: l) | _, _ => none) = _
    rw [SC.sub_den ok σ τ (β' := β') h.1, subL_den h.2]
    rfl
theorem SP.sub_den {x : SP} (h : x.wsP = true) : (x.sub pc σ τ).den ρ β = x.den (ρ.put σ τ) β' := by
  cases x with
  | c x => exact SC.sub_den ok σ τ h
  | agg l => show (denL ρ β (subL pc σ τ l)).map _ = (denL _ β' l).map _; rw [subL_den ok σ τ (β' := β') h]
theorem subP_den : ∀ {l : List SP}, wsPs l = true → denP ρ β (subP pc σ τ l) = denP (ρ.put σ τ) β' l
  | [], _ => rfl
  | x :: r, h => by
    simp only [wsPs, Bool.and_eq_true] at h
    show (match (x.sub pc σ τ).den ρ β, denP ρ β (subP pc σ τ r) with | some v, some l => some (v :: l) | _, _ => none) = _
    rw [SP.sub_den ok σ τ (β' := β') h.1, subP_den h.2]
    rfl
theorem SV.sub_den {x : SV} (h : x.wsV = true) : (x.sub pc σ τ).den ρ β = x.den (ρ.put σ τ) β' := by
  cases x with
  | p x => exact SP.sub_den ok σ τ h
  | tup l => show (denP ρ β (subP pc σ τ l)).map _ = (denP _ β' l).map _; rw [subP_den ok σ τ (β' := β') h]
  | undef => cases h
  | gd c x => cases h
end
/-! ### matching -/
def free1 (σ : Sub) (i : Nat) : Bool := match lk σ i with
  | some _ => false
  | none => true
def matchC : SC → SC → Sub × Sub → Option (Sub × Sub)
  | .int k p, a, (σ, τ) => match p, a with
    | .var i, .int k' e => match kSame k k' && free1 σ i with
      | true => some ((i, e) :: σ, τ)
      | false => none
    | .lit n, .int k' (.lit m) => match kSame k k' && intSame n m with
      | true => some (σ, τ)
      | false => none
    | _, _ => none
  | .bool p, a, (σ, τ) => match p, a with
    | .bvar i, .bool e => match free1 τ i with
      | true => some (σ, (i, e) :: τ)
      | false => none
    | .tt, .bool .tt => some (σ, τ)
    | .ff, .bool .ff => some (σ, τ)
    | _, _ => none
  | .str s, a, x => match (SC.str s).same a with
    | true => some x
    | false => none
  | .nils, .nils, x => some x
  | .nilf, .nilf, x => some x
  | .nilp, .nilp, x => some x
  | _, _, _ => none
def matchL : List SC → List SC → Sub × Sub → Option (Sub × Sub)
  | [], [], x => some x
  | p :: r, a :: s, x => match matchC p a x with
    | some y => matchL r s y
    | none => none
  | _, _, _ => none
def matchP : SP → SP → Sub × Sub → Option (Sub × Sub)
  | .c p, .c a, x => matchC p a x
  | .agg p, .agg a, x => matchL p a x
  | _, _, _ => none
def matchA : List SV → List SV → Sub × Sub → Option (Sub × Sub)
  | [], [], x => some x
  | .p p :: r, .p a :: s, x => match matchP p a x with
    | some y => matchA r s y
    | none => none
  | _, _, _ => none
def Sub.le (σ σ' : Sub) : Prop := ∀ i e, lk σ i = some e → lk σ' i = some e
theorem Sub.le_cons {σ : Sub} {i : Nat} (h : free1 σ i = true) (e : SE) : Sub.le σ ((i, e) :: σ) := by
  intro j f hj
  rw [lk_cons]
  by_cases q : j = i
  · subst q; unfold free1 at h; rw [hj] at h; cases h
  · rw [if_neg q]; exact hj
section
variable {ρ : Env} {β β' : Lay}
theorem matchC_le {p a : SC} {x y : Sub × Sub} (h : matchC p a x = some y) : Sub.le x.1 y.1 ∧ Sub.le x.2 y.2 := by
  unfold matchC at h
  split at h
  · split at h
    · split at h
      · rename_i hb; cases h; simp only [Bool.and_eq_true] at hb; exact ⟨Sub.le_cons hb.2 _, fun _ _ h => h⟩
      · cases h
    · split at h
      · cases h; exact ⟨fun _ _ h => h, fun _ _ h => h⟩
      · cases h
    · cases h
  · split at h
    · split at h
      · rename_i hb; cases h; exact ⟨fun _ _ h => h, Sub.le_cons hb _⟩
      · cases h
    · cases h; exact ⟨fun _ _ h => h, fun _ _ h => h⟩
    · cases h; exact ⟨fun _ _ h => h, fun _ _ h => h⟩
    · cases h
  · split at h
    · cases h; exact ⟨fun _ _ h => h, fun _ _ h => h⟩
    · cases h
  · cases h; exact ⟨fun _ _ h => h, fun _ _ h => h⟩
  · cases h; exact ⟨fun _ _ h => h, fun _ _ h => h⟩
  · cases h; exact ⟨fun _ _ h => h, fun _ _ h => h⟩
  · cases h
theorem matchC_den {p a : SC} {x y : Sub × Sub} (h : matchC p a x = some y) {σ τ : Sub} (hσ : Sub.le y.1 σ) (hτ : Sub.le y.2 τ) : p.den (ρ.put σ τ) β' = a.den ρ β := by
  unfold matchC at h
  split at h
  · split at h
    · rename_i i k' e
      split at h
      · rename_i hb
        cases h
        simp only [Bool.and_eq_true] at hb
        have hl := hσ i e (by rw [lk_cons, if_pos rfl])
        rw [kSame_eq hb.1]
        show some (Value.int _ (((subI σ i).int ρ))) = some (Value.int _ (e.int ρ))
        unfold subI
        rw [hl]
      · cases h
    · split at h
      · rename_i hb
        cases h
        simp only [Bool.and_eq_true] at hb
        rw [kSame_eq hb.1, intSame_eq hb.2]
        rfl
      · cases h
    · cases h
  · split at h
    · rename_i i e
      split at h
      · cases h
        have hl := hτ i e (by rw [lk_cons, if_pos rfl])
        show some (Value.bool (((subB τ i).tru ρ))) = some (Value.bool (e.tru ρ))
        unfold subB
        rw [hl]
      · cases h
    · rfl
    · rfl
    · cases h
  · split at h
    · rename_i hs; rw [← SC.same_eq hs]; rfl
    · cases h
  · rfl
  · rfl
  · rfl
  · cases h
theorem matchL_le : ∀ {p a : List SC} {x y : Sub × Sub}, matchL p a x = some y → Sub.le x.1 y.1 ∧ Sub.le x.2 y.2
  | [], [], _, _, h => by cases h; exact ⟨fun _ _ h => h, fun _ _ h => h⟩
  | [], _ :: _, _, _, h => by cases h
  | _ :: _, [], _, _, h => by cases h
  | p :: r, a :: s, x, y, h => by
    unfold matchL at h
    split at h
    · rename_i z hz
      have h1 := matchC_le hz
      have h2 := matchL_le h
      exact ⟨fun i e h => h2.1 i e (h1.1 i e h), fun i e h => h2.2 i e (h1.2 i e h)⟩
    · cases h
theorem matchL_den : ∀ {p a : List SC} {x y : Sub × Sub}, matchL p a x = some y → ∀ {σ τ : Sub}, Sub.le y.1 σ → Sub.le y.2 τ → denL (ρ.put σ τ) β' p = denL ρ β a
  | [], [], _, _, _, _, _, _, _ => rfl
  | [], _ :: _, _, _, h, _, _, _, _ => by cases h
  | _ :: _, [], _, _, h, _, _, _, _ => by cases h
  | p :: r, a :: s, x, y, h, σ, τ, hσ, hτ => by
    unfold matchL at h
    split at h
    · rename_i z hz
      have h2 := matchL_le h
      unfold denL
      rw [matchC_den (β := β) (β' := β') hz (fun i e q => hσ i e (h2.1 i e q)) (fun i e q => hτ i e (h2.2 i e q)), matchL_den h hσ hτ]
    · cases h
theorem matchP_le {p a : SP} {x y : Sub × Sub} (h : matchP p a x = some y) : Sub.le x.1 y.1 ∧ Sub.le x.2 y.2 := by
  unfold matchP at h
  split at h
  · exact matchC_le h
  · exact matchL_le h
  · cases h
theorem matchP_den {p a : SP} {x y : Sub × Sub} (h : matchP p a x = some y) {σ τ : Sub} (hσ : Sub.le y.1 σ) (hτ : Sub.le y.2 τ) : p.den (ρ.put σ τ) β' = a.den ρ β := by
  unfold matchP at h
  split at h
  · exact matchC_den h hσ hτ
  · show (denL _ β' _).map _ = (denL ρ β _).map _; rw [matchL_den (β := β) h hσ hτ]
  · cases h
theorem matchA_den : ∀ {p a : List SV} {x y : Sub × Sub}, matchA p a x = some y → (Sub.le x.1 y.1 ∧ Sub.le x.2 y.2) ∧ ∀ {σ τ : Sub}, Sub.le y.1 σ → Sub.le y.2 τ → denA (ρ.put σ τ) β' p = denA ρ β a
  | p, a, x, y, h => by
    unfold matchA at h
    split at h
    · cases h; exact ⟨⟨fun _ _ h => h, fun _ _ h => h⟩, fun _ _ => rfl⟩
    · rename_i z p r a s
      split at h
      · rename_i z' hz
        have h1 := matchP_le hz
        obtain ⟨h2, h3⟩ := matchA_den (p := r) (a := s) h
        refine ⟨⟨fun i e q => h2.1 i e (h1.1 i e q), fun i e q => h2.2 i e (h1.2 i e q)⟩, fun {σ τ} hσ hτ => ?_⟩
        unfold denA
        have e1 : (SV.p p).den (ρ.put σ τ) β' = (SV.p a).den ρ β := matchP_den hz (fun i e q => hσ i e (h2.1 i e q)) (fun i e q => hτ i e (h2.2 i e q))
        rw [e1, h3 hσ hτ]
      · cases h
    · cases h
end
/-- a function, letters and their bounds, what it gives of them -/
structure Tpl where
  f : FuncId
  bd : List (Nat × Int × Int)
  pat : List SV
  res : SV
def inBd (pc : PC) (σ : Sub) : List (Nat × Int × Int) → Bool
  | [] => true
  | (i, l, h) :: r => match lk σ i with
    | some e => match bnd pc e with
      | some (l', h') => match intLe l l' && intLe h' h with
        | true => inBd pc σ r
        | false => false
      | none => false
    | none => false
def tplSum (pc : PC) (t : Tpl) (args : List SV) : Option SV := match matchA t.pat args ([], []) with
  | some (σ, τ) => match inBd pc σ t.bd with
    | true => some (t.res.sub pc σ τ)
    | false => none
  | none => none
/-- the contracts of a function, by turns -/
def tplsSum (ts : List Tpl) (pc : PC) (H : List (Nat × Blk)) (args : List SV) : Option SV := match ts with
  | [] => none
  | t :: r => match tplSum pc t args with
    | some v => some v
    | none => tplsSum r pc H args
/-- all ends, as one -/
def mergeR : RTree → Option SV
  | .ret v _ => some v
  | .br c a b => match mergeR a with
    | some x => match mergeR b with
      | some y => mergeV c x y
      | none => none
    | none => none
  | .fail _ => none
  | .all a b => match mergeR a with
    | some x => match mergeR b with
      | some y => match x.same y with
        | true => some x
        | false => none
      | none => none
    | none => none
theorem mergeR_ok {ρ : Env} : ∀ {t : RTree} {v : SV}, mergeR t = some v → t.Holds ρ fun u _ => ∀ β y, u.den ρ β = some y → v.den ρ β = some y
  | .ret u H, v, h => by cases h; exact fun _ _ h => h
  | .br c a b, v, h => by
    unfold mergeR at h
    split at h
    · rename_i x hx
      split at h
      · rename_i y hy
        have ha := mergeR_ok (ρ := ρ) hx
        have hb := mergeR_ok (ρ := ρ) hy
        have mono : ∀ {Q Q' : SV → List (Nat × Blk) → Prop}, (∀ v H, Q v H → Q' v H) → ∀ {t : RTree}, t.Holds ρ Q → t.Holds ρ Q' := by
          intro Q Q' hq t
          induction t with
          | ret v H => exact hq v H
          | br c a b iha ihb =>
            intro h
            replace h : if c.tru ρ then a.Holds ρ Q else b.Holds ρ Q := h
            show if c.tru ρ then a.Holds ρ Q' else b.Holds ρ Q'
            split at h
            · rename_i hc; rw [if_pos hc]; exact iha h
            · rename_i hc; rw [if_neg hc]; exact ihb h
          | fail _ => exact id
          | all a b iha ihb => exact fun h => ⟨iha h.1, ihb h.2⟩
        show if c.tru ρ then a.Holds ρ _ else b.Holds ρ _
        cases ht : c.tru ρ
        · exact mono (fun u H hu β z hz => mergeV_ok h ht (by exact hu β z hz)) hb
        · exact mono (fun u H hu β z hz => mergeV_ok h ht (by exact hu β z hz)) ha
      · cases h
    · cases h
  | .fail _, v, h => by cases h
  | .all a b, v, h => by
    unfold mergeR at h
    split at h
    · rename_i x hx
      split at h
      · rename_i y hy
        split at h
        · rename_i hs
          cases h
          have := SV.same_eq hs
          subst this
          exact ⟨mergeR_ok hx, mergeR_ok hy⟩
        · cases h
      · cases h
    · cases h
/-! two values that are the same: word by word, or by proof -/
def eqC (pc : PC) (x y : SC) : Bool := match x.same y with
  | true => true
  | false => match x, y with
    | .int k a, .int k' b => kSame k k' && prove (mkEq pc a b) 100 pc
    | .bool a, .bool b => prove (mkBeq a b) 100 pc
    | _, _ => false
def eqL (pc : PC) : List SC → List SC → Bool
  | [], [] => true
  | x :: r, y :: s => eqC pc x y && eqL pc r s
  | _, _ => false
def eqP (pc : PC) : SP → SP → Bool
  | .c x, .c y => eqC pc x y
  | .agg l, .agg m => eqL pc l m
  | _, _ => false
def eqPs (pc : PC) : List SP → List SP → Bool
  | [], [] => true
  | x :: r, y :: s => eqP pc x y && eqPs pc r s
  | _, _ => false
def eqV (pc : PC) : SV → SV → Bool
  | .p x, .p y => eqP pc x y
  | .tup l, .tup m => eqPs pc l m
  | _, _ => false
section
variable {ρ : Env} {pc : PC} (ok : PcOk ρ pc) {β : Lay}
include ok
theorem eqC_ok {x y : SC} (h : eqC pc x y = true) : x.den ρ β = y.den ρ β := by
  unfold eqC at h
  split at h
  · rename_i hs; rw [SC.same_eq hs]
  · split at h
    · rename_i k a k' b _
      simp only [Bool.and_eq_true] at h
      have := prove_ok 100 ok h.2
      rw [mkEq_ok ok] at this
      have e : a.int ρ = b.int ρ := by simpa using this
      show some (Value.int k (a.int ρ)) = some (Value.int k' (b.int ρ))
      rw [kSame_eq h.1, e]
    · rename_i a b _
      have := prove_ok 100 ok h
      rw [mkBeq_ok] at this
      have e : a.tru ρ = b.tru ρ := by simpa using this
      show some (Value.bool (a.tru ρ)) = some (Value.bool (b.tru ρ))
      rw [e]
    · cases h
theorem eqL_ok : ∀ {x y : List SC}, eqL pc x y = true → denL ρ β x = denL ρ β y
  | [], [], _ => rfl
  | x :: r, y :: s, h => by
    simp only [eqL, Bool.and_eq_true] at h
    unfold denL
    rw [eqC_ok ok h.1, eqL_ok h.2]
  | [], _ :: _, h => by cases h
  | _ :: _, [], h => by cases h
theorem eqP_ok {x y : SP} (h : eqP pc x y = true) : x.den ρ β = y.den ρ β := by
  cases x <;> cases y <;> first | (cases h; done) | skip
  · exact eqC_ok ok h
  · show (denL ρ β _).map _ = (denL ρ β _).map _; rw [eqL_ok ok h]
theorem eqPs_ok : ∀ {x y : List SP}, eqPs pc x y = true → denP ρ β x = denP ρ β y
  | [], [], _ => rfl
  | x :: r, y :: s, h => by
    simp only [eqPs, Bool.and_eq_true] at h
    unfold denP
    rw [eqP_ok ok h.1, eqPs_ok h.2]
  | [], _ :: _, h => by cases h
  | _ :: _, [], h => by cases h
theorem eqV_ok {x y : SV} (h : eqV pc x y = true) : x.den ρ β = y.den ρ β := by
  cases x <;> cases y <;> first | (cases h; done) | skip
  · exact eqP_ok ok h
  · show (denP ρ β _).map _ = (denP ρ β _).map _; rw [eqPs_ok ok h]
end
def sameO (pc : PC) (o : Option SV) (v : SV) : Bool := match o with
  | some u => eqV pc u v
  | none => false
/-- a context that assumes bounds of letters alone -/
def bare (P : Program) (sums : Sums) (mrg : List FuncId) (bd : List (Nat × Int × Int)) : Ctx := { P := P, bd := bd, fb := [], sums := sums, mrg := mrg }
/-- the check of a contract: its run -/
def tplRun (P : Program) (sums : Sums) (mrg : List FuncId) (fuel : Nat) (t : Tpl) : Bool := t.res.wsV && sameO (PC.start (bare P sums mrg t.bd)) (mergeR (runF (bare P sums mrg t.bd) fuel t.f t.pat [] 0)) t.res
def tplRuns (P : Program) (sums : Sums) (mrg : List FuncId) (fuel : Nat) : List Tpl → Bool
  | [] => true
  | t :: r => match tplRun P sums mrg fuel t with
    | true => tplRuns P sums mrg fuel r
    | false => false
theorem tplRuns_app {P : Program} {sums : Sums} {mrg : List FuncId} {fuel : Nat} : ∀ {a b : List Tpl}, tplRuns P sums mrg fuel a = true → tplRuns P sums mrg fuel b = true → tplRuns P sums mrg fuel (a ++ b) = true
  | [], _, _, h => h
  | t :: a, b, h1, h2 => by
    unfold tplRuns at h1
    show tplRuns P sums mrg fuel (t :: (a ++ b)) = true
    unfold tplRuns
    split at h1
    · exact tplRuns_app h1 h2
    · cases h1
theorem bare_ok {P : Program} {sums : Sums} {mrg : List FuncId} {bd : List (Nat × Int × Int)} {ρ : Env} (h1 : ∀ i, (ρ.v i).oneCell' = true) (hm : P.follows .mixedOrders = true) (hb : ∀ i l h, lk bd i = some (l, h) → l ≤ ρ.i i ∧ ρ.i i ≤ h) : (bare P sums mrg bd).Ok ρ := ⟨hb, (by intro i l h e; cases e), h1, hm, (by intro p hp; cases hp)⟩
theorem inBd_ok {ρ : Env} {pc : PC} (ok : PcOk ρ pc) {σ τ : Sub} : ∀ {bd : List (Nat × Int × Int)}, inBd pc σ bd = true → ∀ i l h, lk bd i = some (l, h) → l ≤ (ρ.put σ τ).i i ∧ (ρ.put σ τ).i i ≤ h
  | [], _, i, l, h, e => by cases e
  | (j, l0, h0) :: r, hb, i, l, h, e => by
    unfold inBd at hb
    split at hb
    · rename_i x hx
      split at hb
      · rename_i l' h' hr
        split at hb
        · rename_i hc
          simp only [Bool.and_eq_true] at hc
          rw [lk_cons] at e
          split at e
          · rename_i q
            subst q
            cases e
            have := bnd_ok ok hr
            have k1 := intLe_le hc.1
            have k2 := intLe_le hc.2
            show l0 ≤ (subI σ i).int ρ ∧ (subI σ i).int ρ ≤ h0
            unfold subI
            rw [hx]
            simp only []
            omega
          · exact inBd_ok ok hb i l h e
        · cases hb
      · cases hb
    · cases hb
theorem wsV_den {ρ : Env} : ∀ {v : SV}, v.wsV = true → ∀ β, ∃ x, v.den ρ β = some x ∧ ∀ β', v.den ρ β' = some x := by
  have hc : ∀ {x : SC}, x.wsC = true → ∀ β, ∃ y, x.den ρ β = some y ∧ ∀ β', x.den ρ β' = some y := by
    intro x h β
    cases x <;> first | (cases h; done) | exact ⟨_, rfl, fun _ => rfl⟩
  have hl : ∀ {l : List SC}, wsL l = true → ∀ β, ∃ y, denL ρ β l = some y ∧ ∀ β', denL ρ β' l = some y := by
    intro l
    induction l with
    | nil => intro _ β; exact ⟨_, rfl, fun _ => rfl⟩
    | cons x r ih =>
      intro h β
      simp only [wsL, Bool.and_eq_true] at h
      obtain ⟨y, hy, hy'⟩ := hc h.1 β
      obtain ⟨z, hz, hz'⟩ := ih h.2 β
      exact ⟨y :: z, by unfold denL; rw [hy, hz], fun β' => by unfold denL; rw [hy', hz']⟩
  have hp : ∀ {x : SP}, x.wsP = true → ∀ β, ∃ y, x.den ρ β = some y ∧ ∀ β', x.den ρ β' = some y := by
    intro x h β
    cases x with
    | c x => exact hc h β
    | agg l =>
      obtain ⟨y, hy, hy'⟩ := hl h β
      exact ⟨.agg y.toArray, by simp [SP.den, hy], fun β' => by simp [SP.den, hy']⟩
  have hps : ∀ {l : List SP}, wsPs l = true → ∀ β, ∃ y, denP ρ β l = some y ∧ ∀ β', denP ρ β' l = some y := by
    intro l
    induction l with
    | nil => intro _ β; exact ⟨_, rfl, fun _ => rfl⟩
    | cons x r ih =>
      intro h β
      simp only [wsPs, Bool.and_eq_true] at h
      obtain ⟨y, hy, hy'⟩ := hp h.1 β
      obtain ⟨z, hz, hz'⟩ := ih h.2 β
      exact ⟨y :: z, by unfold denP; rw [hy, hz], fun β' => by unfold denP; rw [hy', hz']⟩
  intro v h β
  cases v with
  | p x => exact hp h β
  | tup l =>
    obtain ⟨y, hy, hy'⟩ := hps h β
    exact ⟨.tuple y.toArray, by simp [SV.den, hy], fun β' => by simp [SV.den, hy']⟩
  | undef => cases h
  | gd c x => cases h
/-- what is asked of the letters of functions stays so whatever stands for the other letters -/
def Keeps (G : Env → Prop) : Prop := ∀ ρ, G ρ → ∀ (σ τ : Sub) (w : World), G { ρ.put σ τ with B := w.heap.size, w0 := w }
/-- a contract by a run -/
theorem tpl_ok {G : Env → Prop} (hG : Keeps G) {cx : Ctx} {sums : Sums} {mrg : List FuncId} {ρ : Env} (hg : G ρ) (one0 : ∀ i, (ρ.v i).oneCell' = true) (hm : cx.P.follows .mixedOrders = true) (hs : ∀ (ρ : Env) (bd : List (Nat × Int × Int)), G ρ → (∀ i, (ρ.v i).oneCell' = true) → SumsOk (bare cx.P sums mrg bd) ρ) {fuel : Nat} {t : Tpl} (hr : tplRun cx.P sums mrg fuel t = true) :
    ∀ pc args v, tplSum pc t args = some v → PcOk ρ pc → ∀ (L : Lst) (β : Lay) H vals w n, WR cx.P ρ ρ.B ρ.w0 L β H n w → denA ρ β args = some vals → ∃ x, v.den ρ β = some x ∧ Calls cx.P t.f vals.toArray w (Ret x w) := by
  intro pc args v hv ok L β H vals w n hW ha
  unfold tplSum at hv
  split at hv
  · rename_i σ τ hmt
    split at hv
    · rename_i hbd
      cases hv
      simp only [tplRun, Bool.and_eq_true] at hr
      obtain ⟨_, hden⟩ := matchA_den (ρ := ρ) (β := β) (β' := noLay) hmt
      have hden := hden (σ := σ) (τ := τ) (fun _ _ h => h) (fun _ _ h => h)
      rw [ha] at hden
      obtain ⟨x, hx, hx'⟩ := wsV_den (ρ := ρ.put σ τ) hr.1 noLay
      refine ⟨x, by rw [SV.sub_den ok σ τ (β' := noLay) hr.1]; exact hx, ?_⟩
      have one : ∀ i, ((ρ.put σ τ).v i).oneCell' = true := one0
      let ρ' : Env := { ρ.put σ τ with B := w.heap.size, w0 := w }
      have same : ∀ (e : SE), e.den ρ' = e.den (ρ.put σ τ) := by
        intro e
        induction e with
        | un o a ih => simp only [SE.den, ih]
        | bin o a b iha ihb => simp only [SE.den, iha, ihb]
        | ite c a b ihc iha ihb => simp only [SE.den, ihc, iha, ihb]
        | bite c a b ihc iha ihb => simp only [SE.den, ihc, iha, ihb]
        | app f a b c d iha ihb ihc ihd => simp only [SE.den, iha, ihb, ihc, ihd]; rfl
        | papp f a b c d iha ihb ihc ihd => simp only [SE.den, iha, ihb, ihc, ihd]; rfl
        | _ => rfl
      have sameC : ∀ (y : SC) (β : Lay), y.den ρ' β = y.den (ρ.put σ τ) β := by
        intro y β
        cases y with
        | int k e => show some (Value.int k (e.den ρ').1) = some (Value.int k (e.den _).1); rw [same]
        | bool e => show some (Value.bool (e.den ρ').2) = some (Value.bool (e.den _).2); rw [same]
        | _ => rfl
      have sameL : ∀ (l : List SC) (β : Lay), denL ρ' β l = denL (ρ.put σ τ) β l := by
        intro l β
        induction l with
        | nil => rfl
        | cons y r ih => unfold denL; rw [sameC, ih]
      have sameP : ∀ (y : SP) (β : Lay), y.den ρ' β = y.den (ρ.put σ τ) β := by
        intro y β
        cases y with
        | c y => exact sameC y β
        | agg l => show (denL ρ' β l).map _ = _; rw [sameL]; rfl
      have samePs : ∀ (l : List SP) (β : Lay), denP ρ' β l = denP (ρ.put σ τ) β l := by
        intro l β
        induction l with
        | nil => rfl
        | cons y r ih => unfold denP; rw [sameP, ih]
      have sameV : ∀ (y : SV) (β : Lay), y.den ρ' β = y.den (ρ.put σ τ) β := by
        intro y β
        cases y with
        | p y => exact sameP y β
        | tup l => show (denP ρ' β l).map _ = _; rw [samePs]; rfl
        | undef => rfl
        | gd c y => show (if (c.den ρ').2 then y.den ρ' β else _) = _; rw [same, sameP]; rfl
      have sameA : ∀ (l : List SV) (β : Lay), denA ρ' β l = denA (ρ.put σ τ) β l := by
        intro l β
        induction l with
        | nil => rfl
        | cons y r ih => unfold denA; rw [sameV, ih]
      have okB : (bare cx.P sums mrg t.bd).Ok ρ' := bare_ok one hm (fun i l h e => inBd_ok (τ := τ) ok hbd i l h e)
      have hrr := hr.2
      unfold sameO at hrr
      split at hrr
      · rename_i u hu
        have hu' : ∀ β, u.den ρ' β = t.res.den ρ' β := fun β => eqV_ok (Ctx.Ok.start okB) hrr
        refine runF_ret (cx := bare cx.P sums mrg t.bd) (ρ := ρ') (fuel := fuel) (args := t.pat) okB (hs ρ' t.bd (hG ρ hg σ τ w) one) hm rfl rfl (by rw [sameA]; exact hden) ?_
        have := mergeR_ok (ρ := ρ') hu
        have fin : ∀ {q : RTree}, (q.Holds ρ' fun v _ => ∀ β y, v.den ρ' β = some y → u.den ρ' β = some y) → q.Holds ρ' fun v _ => ∀ β y, v.den ρ' β = some y → y = x := by
          intro q
          induction q with
          | ret v H =>
            intro h β' y hy
            have h1 := h β' y hy
            rw [hu'] at h1
            have h2 : t.res.den ρ' β' = some x := by rw [sameV]; exact hx' β'
            rw [h2] at h1
            exact (Option.some.inj h1).symm
          | br c a b iha ihb =>
            intro h
            replace h : if c.tru ρ' then _ else _ := h
            show if c.tru ρ' then _ else _
            split at h
            · rename_i hc; rw [if_pos hc]; exact iha h
            · rename_i hc; rw [if_neg hc]; exact ihb h
          | fail _ => exact id
          | all a b iha ihb => exact fun h => ⟨iha h.1, ihb h.2⟩
        exact fin this
      · cases hrr
    · cases hv
  · cases hv
theorem tpls_ok {G : Env → Prop} (hG : Keeps G) {cx : Ctx} {sums : Sums} {mrg : List FuncId} {ρ : Env} (hg : G ρ) (one : ∀ i, (ρ.v i).oneCell' = true) (hm : cx.P.follows .mixedOrders = true) (hs : ∀ (ρ : Env) (bd : List (Nat × Int × Int)), G ρ → (∀ i, (ρ.v i).oneCell' = true) → SumsOk (bare cx.P sums mrg bd) ρ) {fuel : Nat} {f : FuncId} : ∀ {ts : List Tpl}, tplRuns cx.P sums mrg fuel ts = true → (∀ t ∈ ts, t.f = f) → SumOk cx ρ f (tplsSum ts)
  | [], _, _ => by intro pc H args v h; cases h
  | t :: r, hr, hf => by
    intro pc H args v h ok L β vals w n hW ha
    unfold tplRuns at hr
    unfold tplsSum at h
    split at hr
    · rename_i ht
      split at h
      · rename_i u hu
        cases h
        have := tpl_ok hG (cx := cx) (ρ := ρ) hg one hm hs ht pc args _ hu ok L β H vals w n hW ha
        rwa [hf t List.mem_cons_self] at this
      · exact tpls_ok hG hg one hm hs hr (fun t ht => hf t (List.mem_cons_of_mem _ ht)) pc H args v h ok L β vals w n hW ha
    · cases hr
/-- contracts that are so wherever they are used -/
def AllOk (P : Program) (G : Env → Prop) (l : Sums) : Prop := ∀ (cx : Ctx) (ρ : Env), G ρ → (∀ i, (ρ.v i).oneCell' = true) → cx.P = P → ∀ p ∈ l, SumOk cx ρ p.1 p.2
theorem allOk_nil (P : Program) (G : Env → Prop) : AllOk P G [] := fun _ _ _ _ _ p hp => by cases hp
theorem AllOk.sums {P : Program} {G : Env → Prop} {l : Sums} (h : AllOk P G l) {cx : Ctx} {ρ : Env} (hg : G ρ) (one : ∀ i, (ρ.v i).oneCell' = true) (hP : cx.P = P) (hl : cx.sums = l) : SumsOk cx ρ := sums_of (by rw [hl]; exact h cx ρ hg one hP)
theorem stage {P : Program} {G : Env → Prop} (hG : Keeps G) {l : Sums} (h : AllOk P G l) (hm : P.follows .mixedOrders = true) {mrg : List FuncId} {fuel : Nat} {f : FuncId} {ts : List Tpl} (hr : tplRuns P l mrg fuel ts = true) (hf : (ts.all fun t => Nat.beq t.f f) = true) : AllOk P G ((f, tplsSum ts) :: l) := by
  intro cx ρ hg one hP p hp
  rcases List.mem_cons.1 hp with rfl | hp
  · subst hP
    exact tpls_ok hG (cx := cx) hg one hm (fun ρ bd g o => h.sums (cx := bare cx.P l mrg bd) g o rfl rfl) hr (fun t ht => Nat.eq_of_beq_eq_true (List.all_eq_true.1 hf t ht))
  · exact h cx ρ hg one hP p hp
end
end Go.Proofs.YtopfaapcekiojaaGreat.Sym

/- Runs looked at end by end, with what is known there; contexts at whatever world. -/
namespace Go.Proofs.YtopfaapcekiojaaGreat.Sym
open Go Go.RowKit Go.Proofs.YtopfaapcekiojaaGreat
noncomputable section
set_option linter.unusedVariables false

/-- the letters, at another world -/
def Env.at (ρ : Env) (w : World) : Env := { ρ with B := w.heap.size, w0 := w }
section
variable {ρ : Env} {w : World}
theorem den_at : ∀ e : SE, e.den (ρ.at w) = e.den ρ := by
  intro e
  induction e with
  | un o a ih => simp only [SE.den, ih]
  | bin o a b iha ihb => simp only [SE.den, iha, ihb]
  | ite c a b ihc iha ihb => simp only [SE.den, ihc, iha, ihb]
  | bite c a b ihc iha ihb => simp only [SE.den, ihc, iha, ihb]
  | app f a b c d iha ihb ihc ihd => simp only [SE.den, iha, ihb, ihc, ihd]; rfl
  | papp f a b c d iha ihb ihc ihd => simp only [SE.den, iha, ihb, ihc, ihd]; rfl
  | _ => rfl
theorem int_at (e : SE) : e.int (ρ.at w) = e.int ρ := by unfold SE.int; rw [den_at]
theorem tru_at (e : SE) : e.tru (ρ.at w) = e.tru ρ := by unfold SE.tru; rw [den_at]
theorem denC_at (y : SC) (β : Lay) : y.den (ρ.at w) β = y.den ρ β := by
  cases y with
  | int k e => show some (Value.int k (e.den (ρ.at w)).1) = some (Value.int k (e.den _).1); rw [den_at]
  | bool e => show some (Value.bool (e.den (ρ.at w)).2) = some (Value.bool (e.den _).2); rw [den_at]
  | _ => rfl
theorem denL_at (l : List SC) (β : Lay) : denL (ρ.at w) β l = denL ρ β l := by
  induction l with
  | nil => rfl
  | cons y r ih => unfold denL; rw [denC_at, ih]
theorem denSP_at (y : SP) (β : Lay) : y.den (ρ.at w) β = y.den ρ β := by
  cases y with
  | c y => exact denC_at y β
  | agg l => show (denL (ρ.at w) β l).map _ = _; rw [denL_at]; rfl
theorem denP_at (l : List SP) (β : Lay) : denP (ρ.at w) β l = denP ρ β l := by
  induction l with
  | nil => rfl
  | cons y r ih => unfold denP; rw [denSP_at, ih]
theorem denV_at (y : SV) (β : Lay) : y.den (ρ.at w) β = y.den ρ β := by
  cases y with
  | p y => exact denSP_at y β
  | tup l => show (denP (ρ.at w) β l).map _ = _; rw [denP_at]; rfl
  | undef => rfl
  | gd c y => show (if (c.den (ρ.at w)).2 then y.den (ρ.at w) β else _) = _; rw [den_at, denSP_at]; rfl
theorem denA_at (l : List SV) (β : Lay) : denA (ρ.at w) β l = denA ρ β l := by
  induction l with
  | nil => rfl
  | cons y r ih => unfold denA; rw [denV_at, ih]
theorem holds_at {Q : SV → List (Nat × Blk) → Prop} : ∀ {t : RTree}, t.Holds ρ Q → t.Holds (ρ.at w) Q
  | .ret _ _, h => h
  | .fail _, h => h
  | .br c a b, h => by
    replace h : if c.tru ρ then a.Holds ρ Q else b.Holds ρ Q := h
    show if c.tru (ρ.at w) then a.Holds (ρ.at w) Q else b.Holds (ρ.at w) Q
    rw [tru_at]
    split at h
    · rename_i hc; rw [if_pos hc]; exact holds_at h
    · rename_i hc; rw [if_neg hc]; exact holds_at h
  | .all a b, h => ⟨holds_at h.1, holds_at h.2⟩
theorem Ctx.Ok.at {cx : Ctx} (ok : cx.Ok ρ) : cx.Ok (ρ.at w) := ⟨ok.bd, ok.fb, ok.one, ok.mixed, fun p hp => by rw [tru_at]; exact ok.ax p hp⟩
end
/-- unless it cannot be -/
def okOr (pc : PC) (f : PC → Bool) : Bool := match pc.bad with
  | true => true
  | false => f pc
/-- something is so at each end that can be -/
def RTree.chk (q : PC → SV → Bool) : RTree → PC → Bool
  | .ret v _, pc => q pc v
  | .br c a b, pc => match okOr (assume pc c true) (fun p => a.chk q p) with
    | true => okOr (assume pc c false) (fun p => b.chk q p)
    | false => false
  | .fail _, _ => false
  | .all _ _, _ => false
theorem chk_ok {ρ : Env} {q : PC → SV → Bool} : ∀ {t : RTree} {pc : PC}, PcOk ρ pc → t.chk q pc = true → ∃ v pc', PcOk ρ pc' ∧ q pc' v = true ∧ ∀ Q : SV → List (Nat × Blk) → Prop, (∀ H, Q v H) → t.Holds ρ Q
  | .ret v H, pc, ok, h => ⟨v, pc, ok, h, fun Q hQ => hQ H⟩
  | .fail _, _, _, h => by cases h
  | .all _ _, _, _, h => by cases h
  | .br c a b, pc, ok, h => by
    have go : ∀ {p : PC} {f : PC → Bool}, PcOk ρ p → okOr p f = true → f p = true := by
      intro p f hp hu
      unfold okOr at hu
      split at hu
      · rename_i hb; have := hp.good; rw [hb] at this; cases this
      · exact hu
    unfold RTree.chk at h
    split at h
    · rename_i ha
      cases hc : c.tru ρ with
      | true =>
        have ok' := assume_ok ok hc
        obtain ⟨v, p, h1, h2, h3⟩ := chk_ok (t := a) ok' (go ok' ha)
        exact ⟨v, p, h1, h2, fun Q hQ => by show if c.tru ρ then _ else _; rw [if_pos hc]; exact h3 Q hQ⟩
      | false =>
        have ok' := assume_ok ok hc
        obtain ⟨v, p, h1, h2, h3⟩ := chk_ok (t := b) ok' (go ok' h)
        exact ⟨v, p, h1, h2, fun Q hQ => by show if c.tru ρ then _ else _; rw [if_neg (by rw [hc]; simp)]; exact h3 Q hQ⟩
    · cases h
/-- a function's run, end by end -/
theorem chk_calls {cx : Ctx} {ρ : Env} (ok : cx.Ok ρ) (hsums : ∀ W, SumsOk cx (ρ.at W)) (hm : cx.P.follows .mixedOrders = true) {fuel : Nat} {f : FuncId} {args : List SV} {vals : List Value} (ha : denA ρ noLay args = some vals) {q : PC → SV → Bool}
    (h : (runF cx fuel f args [] 0).chk q (assumes cx.ax (PC.start cx)) = true) : ∃ v pc, PcOk ρ pc ∧ q pc v = true ∧ ∀ x, (∀ β, v.den ρ β = some x) → ∀ W, Calls cx.P f vals.toArray W (Ret x W) := by
  obtain ⟨v, pc, h1, h2, h3⟩ := chk_ok ok.start h
  refine ⟨v, pc, h1, h2, fun x hx W => ?_⟩
  refine runF_ret (ρ := ρ.at W) (fuel := fuel) (args := args) ok.at (hsums W) hm rfl rfl (by rw [denA_at]; exact ha) ?_
  exact holds_at (h3 _ fun H β y hy => by rw [denV_at, hx β] at hy; exact (Option.some.inj hy).symm)
def chkB (cx : Ctx) (f : FuncId) (args : List SV) (q : PC → SV → Bool) : Bool := (runF cx 300 f args [] 0).chk q (assumes cx.ax (PC.start cx))
theorem chkB_calls {cx : Ctx} {f : FuncId} {args : List SV} {q : PC → SV → Bool} (h : chkB cx f args q = true) {ρ : Env} (ok : cx.Ok ρ) (hsums : ∀ W, SumsOk cx (ρ.at W)) (hm : cx.P.follows .mixedOrders = true) {vals : List Value} (ha : denA ρ noLay args = some vals) :
    ∃ v pc, PcOk ρ pc ∧ q pc v = true ∧ ∀ x, (∀ β, v.den ρ β = some x) → ∀ W, Calls cx.P f vals.toArray W (Ret x W) := chk_calls ok hsums hm ha h
/-! ### a little more is seen -/
/-- numbers that are known by their bounds: their bits -/
def pushI : List Iv → PC → PC
  | [], pc => pc
  | e :: r, pc => match evalE pc e.x with
    | some c => pushI r (pc.updW e.x c)
    | none => pushI r pc
/-- two truths of which one must not be -/
def pushC : List Fact → PC → PC
  | [], pc => pc
  | f :: r, pc => match f.e, f.t with
    | .bin .and a b, false => match dec pc a with
      | some true => pushC r (assume pc b false)
      | _ => match dec pc b with
        | some true => pushC r (assume pc a false)
        | _ => pushC r pc
    | _, _ => pushC r pc
def push (pc : PC) : PC := match pushI pc.iv pc with
  | p => match pushC p.cs p with
    | q => pushC q.cs q
/-- two numbers are the same, choice by choice -/
def eqBy : Nat → PC → SE → SE → Bool
  | 0, _, _, _ => false
  | n + 1, pc, a, b => okOr pc fun pc => match a with
    | .ite c x y => match decT pc c with
      | some true => eqBy n pc x b
      | some false => eqBy n pc y b
      | none => match eqBy n (assume pc c true) x b with
        | true => eqBy n (assume pc c false) y b
        | false => false
    | a => match eqC pc (.int .i64 a) (.int .i64 b) with
      | true => true
      | false => okOr (push pc) fun pc => eqC pc (.int .i64 a) (.int .i64 b)
theorem okOr_ok {ρ : Env} {pc : PC} {f : PC → Bool} (ok : PcOk ρ pc) (h : okOr pc f = true) : f pc = true := by
  unfold okOr at h
  split at h
  · rename_i hb; have := ok.good; rw [hb] at this; cases this
  · exact h
theorem pushI_ok {ρ : Env} : ∀ (l : List Iv) {pc : PC}, PcOk ρ pc → PcOk ρ (pushI l pc)
  | [], _, ok => ok
  | e :: r, pc, ok => by
    unfold pushI
    split
    · rename_i c hc; exact pushI_ok r (updW_ok ok (evalE_ok ok hc))
    · exact pushI_ok r ok
theorem pushC_ok {ρ : Env} : ∀ (l : List Fact) {pc : PC}, (∀ f ∈ l, f.e.tru ρ = f.t) → PcOk ρ pc → PcOk ρ (pushC l pc)
  | [], _, _, ok => ok
  | f :: r, pc, hl, ok => by
    have hr : ∀ f ∈ r, f.e.tru ρ = f.t := fun g hg => hl g (List.mem_cons_of_mem _ hg)
    have hf := hl f List.mem_cons_self
    unfold pushC
    split
    · rename_i a b he ht
      rw [he, ht] at hf
      have hf : (a.tru ρ && b.tru ρ) = false := hf
      split
      · rename_i hd
        have := dec_ok ok hd
        rw [this] at hf
        exact pushC_ok r hr (assume_ok ok (by simpa using hf))
      · split
        · rename_i hd
          have := dec_ok ok hd
          rw [this] at hf
          exact pushC_ok r hr (assume_ok ok (by simpa using hf))
        · exact pushC_ok r hr ok
    · exact pushC_ok r hr ok
theorem push_ok {ρ : Env} {pc : PC} (ok : PcOk ρ pc) : PcOk ρ (push pc) := by
  unfold push
  have h1 := pushI_ok pc.iv ok
  have h2 := pushC_ok _ h1.cs h1
  exact pushC_ok _ h2.cs h2
theorem eqBy_ok {ρ : Env} : ∀ {n : Nat} {pc : PC} {a b : SE}, PcOk ρ pc → eqBy n pc a b = true → a.int ρ = b.int ρ
  | 0, _, _, _, _, h => by cases h
  | n + 1, pc, a, b, ok, h => by
    unfold eqBy at h
    replace h := okOr_ok ok h
    split at h
    · rename_i c x y
      show (if c.tru ρ then x.int ρ else y.int ρ) = _
      split at h
      · rename_i hd; rw [if_pos (decT_ok ok hd)]; exact eqBy_ok ok h
      · rename_i hd; rw [if_neg (by rw [decT_ok ok hd]; simp)]; exact eqBy_ok ok h
      · split at h
        · rename_i hx
          cases hc : c.tru ρ with
          | true => rw [if_pos rfl]; exact eqBy_ok (assume_ok ok hc) hx
          | false => rw [if_neg (by simp)]; exact eqBy_ok (assume_ok ok hc) h
        · cases h
    · have fin : ∀ {p : PC}, PcOk ρ p → eqC p (.int .i64 a) (.int .i64 b) = true → a.int ρ = b.int ρ := by
        intro p hp he
        have := eqC_ok (β := noLay) hp he
        have := Option.some.inj this
        exact (Value.int.inj this).2
      split at h
      · rename_i he; exact fin ok he
      · exact fin (push_ok ok) (okOr_ok (push_ok ok) h)
/-- contracts of two lists -/
theorem AllOk.app {P : Program} {G : Env → Prop} {a b : Sums} (ha : AllOk P G a) (hb : AllOk P G b) : AllOk P G (a ++ b) := by
  intro cx ρ hg one hP p hp
  rcases List.mem_append.1 hp with hp | hp
  · exact ha cx ρ hg one hP p hp
  · exact hb cx ρ hg one hP p hp
theorem AllOk.mono {P : Program} {G G' : Env → Prop} {a : Sums} (h : ∀ ρ, G' ρ → G ρ) (ha : AllOk P G a) : AllOk P G' a := fun cx ρ hg one hP p hp => ha cx ρ (h ρ hg) one hP p hp
/-- contracts at given arguments, several -/
def patsS : List (List SV × SV) → PC → List (Nat × Blk) → List SV → Option SV
  | [], _, _, _ => none
  | (p, v) :: r, pc, H, args => match lSame SV.same args p with
    | true => some v
    | false => patsS r pc H args
theorem pats_s {cx : Ctx} {ρ : Env} {f : FuncId} : ∀ {l : List (List SV × SV)}, (∀ p ∈ l, SumOk cx ρ f (patS p.1 p.2)) → SumOk cx ρ f (patsS l)
  | [], _ => by intro pc H args v h; cases h
  | (p, v) :: r, h => by
    intro pc H args u hu
    unfold patsS at hu
    split at hu
    · rename_i hs
      exact h (p, v) List.mem_cons_self pc H args u (by unfold patS; rw [hs]; exact hu)
    · exact pats_s (fun p hp => h p (List.mem_cons_of_mem _ hp)) pc H args u hu
end
end Go.Proofs.YtopfaapcekiojaaGreat.Sym
