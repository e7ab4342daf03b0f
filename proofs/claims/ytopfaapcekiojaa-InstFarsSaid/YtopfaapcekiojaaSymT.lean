/- Regions that draw their order, beside blocks that are held: an operation that reads held blocks alone may be taken first. In whatever fence lets all functions in. -/
import Derived.Test.YtopfaapcekiojaaSymD
import Derived.OrdersIn
namespace Go.Proofs.Ytopfaapcekiojaa.Sym
open Go Go.RowKit Go.Proofs.Ytopfaapcekiojaa

section
variable {F : Fence} {n : Nat} {P : Program} {ops : Array Oper} {Q : Exit → Act → World → Prop} {S : World → Prop}
/-- all orders; between any two operations S holds -/
def anyH (F : Fence) (n : Nat) (P : Program) (ops : Array Oper) (Q : Exit → Act → World → Prop) (S : World → Prop) : Nat → Array Bool → Act → World → Prop
  | 0, listed, a, w => S w ∧ Region.ready .any ops listed = [] ∧ Q .normal a w
  | m + 1, listed, a, w => S w ∧ (Region.ready .any ops listed = [] → Q .normal a w) ∧ ∀ i ∈ Region.ready .any ops listed, wpOpIn F n P ops Q i (anyH F n P ops Q S m (listed.setIfInBounds i true)) a w
theorem anyH_any : ∀ (m : Nat) (listed : Array Bool) (a : Act) (w : World), anyH F n P ops Q S m listed a w → wpAnyIn F n P .any ops Q m listed a w
  | 0, _, _, _, h => h.2
  | m + 1, _, _, _, h => ⟨h.2.1, fun i hi => wpOpIn_mono (fun a w hk => anyH_any m _ a w hk) (h.2.2 i hi)⟩
theorem anyH_S : ∀ {m : Nat} {listed : Array Bool} {a : Act} {w : World}, anyH F n P ops Q S m listed a w → S w
  | 0, _, _, _, h => h.1
  | _ + 1, _, _, _, h => h.1
/-- it gives v wherever S holds -/
def YieldsS (P : Program) (ops : Array Oper) (S : World → Prop) (o : Oper) (v : Value) (a : Act) : Prop :=
  (Region.wanted o (yielded ops a.tmps) = true ∧ ∀ w, S w → (execOp a.eval o).run P w = .ok (.value v) w) ∨ (Region.wanted o (yielded ops a.tmps) = false ∧ v = Go.undef)
theorem eval_tmps {a b : Act} (h : a.tmps = b.tmps) : a.eval = b.eval := by
  obtain ⟨t, d⟩ := a
  obtain ⟨u, e⟩ := b
  replace h : t = u := h
  subst h
  rfl
theorem YieldsS.now {i : Nat} {o : Oper} {v : Value} {a : Act} (hfn : ∀ f, F.fn f) (hi : ops[i]? = some o) (hnd : ∀ c, o.op ≠ .defer c) (hy : YieldsS P ops S o v a) {K : Act → World → Prop} {w : World} (hS : S w) (h : K (a.put o.dst v) w) : wpOpIn F n P ops Q i K a w := by
  unfold Go.wpOpIn
  simp only [hi]
  rcases hy with ⟨hw, hv⟩ | ⟨hw, rfl⟩
  · rw [if_pos hw]
    refine ⟨fun f _ => hfn f, ?_⟩
    rw [Oper.semAt_eq _ _ _ hnd, hv w hS]
    exact h
  · rw [if_neg (by rw [hw]; simp)]
    exact ⟨fun f _ => hfn f, h⟩
theorem wpOpIn_comm {j : Nat} {oi oj : Oper} {v : Value} (hfn : ∀ f, F.fn f) (hj : ops[j]? = some oj) (hnd : ∀ c, oj.op ≠ .defer c) (hsj : ∀ cs b, oj.op ≠ .select cs b) (hap : oi.apart ops oj = true)
    (hQ : ∀ c a a' w, Q (.panic c) a' w → Q (.panic c) a w) {K : Act → World → Prop} {a : Act} {w : World} (h : wpOpIn F n P ops Q j K (a.put oi.dst v) w) :
    wpOpIn F n P ops Q j (fun a' w' => (∃ u, a'.tmps = (a.put oj.dst u).tmps) ∧ K (a'.put oi.dst v) w') a w := by
  obtain ⟨h1, h2, h3⟩ := Oper.apart_spec hap
  unfold wpOpIn at *
  simp only [hj] at *
  rw [wanted_put oj a oi.dst v h1] at h
  split
  · rename_i hw
    rw [if_pos hw] at h
    refine ⟨fun f _ => hfn f, ?_⟩
    replace h := h.2
    rw [Oper.semAt_eq _ _ _ hnd, execOp_put oj hsj a oi.dst v h1] at h
    rw [Oper.semAt_eq _ _ _ hnd]
    generalize (execOp a.eval oj).run P w = r at *
    cases r with
    | ok x w' =>
      cases x <;> simp only [Oper.uponIn] at h ⊢
      case value u => exact ⟨⟨u, rfl⟩, by rw [← Act.put_comm a v u h2]; exact h⟩
      case skip => exact ⟨⟨_, rfl⟩, by rw [← Act.put_comm a v Go.undef h2]; exact h⟩
      case defer d =>
        refine ⟨⟨Go.undef, ?_⟩, ?_⟩
        · cases oj.dst <;> rfl
        · rw [← Act.put_comm _ v Go.undef h2, ← Act.put_defers]
          exact h
      case enter f args =>
        refine ⟨h.1, CallsIn.mono h.2 fun e w'' he => ?_⟩
        cases e with
        | returned u => exact ⟨⟨u, rfl⟩, by rw [← Act.put_comm a v u h2]; exact he⟩
        | panicked c => exact hQ _ _ _ _ he
        | outgrown => exact he
      case row row args => exact ⟨h.1, RowsIn.mono h.2 fun u w'' he => ⟨⟨u, rfl⟩, by rw [← Act.put_comm a v u h2]; exact he⟩⟩
      case round l f tmps assign body =>
        refine ⟨h.1, RoundIn.mono h.2 fun e w'' he => ?_⟩
        cases e with
        | returned u => exact ⟨⟨u, rfl⟩, by rw [← Act.put_comm a v u h2]; exact he⟩
        | panicked c => exact hQ _ _ _ _ he
        | outgrown => exact he
    | halt x w' =>
      cases x <;> simp only [Oper.uponIn] at h ⊢
      case panic u => exact hQ _ _ _ _ h
  · rename_i hw
    rw [if_neg hw] at h
    exact ⟨fun f _ => hfn f, ⟨_, rfl⟩, by rw [← Act.put_comm a v Go.undef h2]; exact h.2⟩
theorem YieldsS.moved {oi oj : Oper} {v u : Value} {a a' : Act} (hsi : ∀ cs b, oi.op ≠ .select cs b) (hap : oi.apart ops oj = true) (ha : a'.tmps = (a.put oj.dst u).tmps) (hy : YieldsS P ops S oi v a) : YieldsS P ops S oi v a' := by
  obtain ⟨_, _, h3⟩ := Oper.apart_spec hap
  unfold YieldsS at *
  rw [eval_tmps ha, ha, execOp_put oi hsi a oj.dst u h3, wanted_put oi a oj.dst u h3]
  exact hy
theorem anyH_first {i : Nat} {oi : Oper} {v : Value} (hfn : ∀ f, F.fn f) (hi : ops[i]? = some oi) (hpl : ∀ (j : Nat) (o : Oper), ops[j]? = some o → (∀ c, o.op ≠ .defer c) ∧ ∀ cs b, o.op ≠ .select cs b)
    (hQ : ∀ c a a' w, Q (.panic c) a' w → Q (.panic c) a w) : ∀ (m : Nat) (listed : Array Bool) (a : Act) (w : World),
      (∀ j oj, ops[j]? = some oj → j ≠ i → listed.getD j true = false → (∀ e ∈ oj.after, Region.binds .any e = true → e.on ≠ i) → oi.apart ops oj = true) →
      i ∈ Region.ready .any ops listed → YieldsS P ops S oi v a → S w →
      anyH F n P ops Q S m (listed.setIfInBounds i true) (a.put oi.dst v) w → anyH F n P ops Q S (m + 1) listed a w := by
  intro m
  induction m with
  | zero =>
    intro listed a w _ hr hy hS H
    refine ⟨hS, fun h => (by rw [h] at hr; cases hr), fun j hj => ?_⟩
    by_cases hji : j = i
    · subst hji; exact hy.now hfn hi (hpl _ _ hi).1 hS H
    · have := ready_mono hj hji
      rw [H.2.1] at this
      cases this
  | succ m ih =>
    intro listed a w hfree hr hy hS H
    refine ⟨hS, fun h => (by rw [h] at hr; cases hr), fun j hj => ?_⟩
    by_cases hji : j = i
    · subst hji; exact hy.now hfn hi (hpl _ _ hi).1 hS H
    · have h1 := H.2.2 j (ready_mono hj hji)
      obtain ⟨hjun, oj, hoj, hall⟩ := mem_ready.1 hj
      have hnot : ∀ e ∈ oj.after, Region.binds .any e = true → e.on ≠ i := fun e he hb heq => by
        have h1 := hall e he hb
        have h0 := (mem_ready.1 hr).1
        rw [heq] at h1
        rcases Nat.lt_or_ge i listed.size with h' | h'
        · simp [h'] at h0 h1; rw [h0] at h1; cases h1
        · simp [Array.getElem?_eq_none h'] at h1
      have hap := hfree j oj hoj hji hjun hnot
      have h2 := wpOpIn_comm hfn hoj (hpl _ _ hoj).1 (hpl _ _ hoj).2 hap hQ h1
      have hfree' : ∀ k ok, ops[k]? = some ok → k ≠ i → (listed.setIfInBounds j true).getD k true = false →
          (∀ e ∈ ok.after, Region.binds .any e = true → e.on ≠ i) → oi.apart ops ok = true := fun k ok hk hki hun hno => by
        refine hfree k ok hk hki ?_ hno
        by_cases hjk : j = k
        · subst hjk; exact hjun
        · rw [getD_set_ne true hjk] at hun; exact hun
      refine wpOpIn_mono (fun a' w' h3 => ?_) h2
      obtain ⟨⟨u, hu⟩, h3⟩ := h3
      refine ih (listed.setIfInBounds j true) a' w' hfree' (ready_mono hr (Ne.symm hji)) (hy.moved (hpl _ _ hi).2 hap hu) (anyH_S h3) ?_
      rw [Array.setIfInBounds_comm _ _ hji]
      exact h3
theorem anyH_done {listed : Array Bool} {a : Act} {w : World} (hr : Region.ready .any ops listed = []) (hS : S w) (h : Q .normal a w) : ∀ m, anyH F n P ops Q S m listed a w
  | 0 => ⟨hS, hr, h⟩
  | _ + 1 => ⟨hS, fun _ => h, by rw [hr]; simp⟩
/-- what is held stays where it lay -/
theorem BlkAt.back {P : Program} {ρ : Env} {B : Nat} {β β' : Lay} {w w' : World} {b : Nat} {k : Blk} (h0 : BlkAt P ρ B β w b k) (hle : β.le β') (h : BlkAt P ρ B β' w' b k) : BlkAt P ρ B β w' b k := by
  obtain ⟨ad, cap, cs, cur, h1, h2, h3, _⟩ := h0
  obtain ⟨ad', cap', cs', cur', g1, g2, g3, g4, g5, g6, g7⟩ := h
  rw [hle _ _ h1] at g1
  cases g1
  rw [denL_le hle h2] at g2
  cases g2
  exact ⟨ad, cap, cs, cur', h1, h2, h3, g4, g5, g6, g7⟩
theorem BlkAt.low {P : Program} {ρ : Env} {B B' : Nat} {β : Lay} {w : World} {b : Nat} {k : Blk} (hB : B' ≤ B) (h : BlkAt P ρ B β w b k) : BlkAt P ρ B' β w b k := by
  obtain ⟨ad, cap, cs, cur, h1, h2, h3, r⟩ := h
  exact ⟨ad, cap, cs, cur, h1, h2, by omega, r⟩
end
end Go.Proofs.Ytopfaapcekiojaa.Sym
