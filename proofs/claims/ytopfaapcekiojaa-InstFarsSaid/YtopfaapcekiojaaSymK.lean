/- Contracts that a run is given: how they are told apart, and that they are so. -/
import Derived.Test.YtopfaapcekiojaaSymJ
namespace Go.Proofs.Ytopfaapcekiojaa.Sym
open Go Go.RowKit Go.Proofs.Ytopfaapcekiojaa

/-- a contract at given arguments -/
def patS (pat : List SV) (v : SV) (_ : PC) (_ : List (Nat × Blk)) (args : List SV) : Option SV := match lSame SV.same args pat with
  | true => some v
  | false => none
def SumOk (cx : Ctx) (ρ : Env) (f : FuncId) (g : PC → List (Nat × Blk) → List SV → Option SV) : Prop :=
  ∀ pc H args v, g pc H args = some v → PcOk ρ pc → ∀ (L : Lst) (β : Lay) vals w n, WR cx.P ρ ρ.B ρ.w0 L β H n w → denA ρ β args = some vals → ∃ x, v.den ρ β = some x ∧ Calls cx.P f vals.toArray w (Ret x w)
theorem sums_of {cx : Ctx} {ρ : Env} (h : ∀ p ∈ cx.sums, SumOk cx ρ p.1 p.2) : SumsOk cx ρ := fun f g hf => h (f, g) (lk_mem hf)
theorem patS_ok {cx : Ctx} {ρ : Env} {f : FuncId} {pat : List SV} {v : SV} (h : ∀ (β : Lay) vals w, Below ρ.B ρ.w0 w → denA ρ β pat = some vals → ∃ x, v.den ρ β = some x ∧ Calls cx.P f vals.toArray w (Ret x w)) : SumOk cx ρ f (patS pat v) := by
  intro pc H args u hg _ L β vals w n hW ha
  unfold patS at hg
  split at hg
  · rename_i hs
    cases hg
    rw [lSame_eq (fun _ _ h => SV.same_eq h) hs] at ha
    exact h β vals w hW.below ha
  · cases hg
theorem denL_cons {ρ : Env} {β : Lay} {x : SC} {r : List SC} {vs : List Value} (h : denL ρ β (x :: r) = some vs) : ∃ v l, x.den ρ β = some v ∧ denL ρ β r = some l ∧ vs = v :: l := by
  unfold denL at h
  cases hx : x.den ρ β with
  | none => simp [hx] at h
  | some v =>
    cases hr : denL ρ β r with
    | none => simp [hx, hr] at h
    | some l => simp only [hx, hr] at h; cases h; exact ⟨v, l, rfl, rfl, rfl⟩
theorem denA_cons {ρ : Env} {β : Lay} {x : SV} {r : List SV} {vs : List Value} (h : denA ρ β (x :: r) = some vs) : ∃ v l, x.den ρ β = some v ∧ denA ρ β r = some l ∧ vs = v :: l := by
  unfold denA at h
  cases hx : x.den ρ β with
  | none => simp [hx] at h
  | some v =>
    cases hr : denA ρ β r with
    | none => simp [hx, hr] at h
    | some l => simp only [hx, hr] at h; cases h; exact ⟨v, l, rfl, rfl, rfl⟩
def isStr : SC → Bool
  | .str _ | .strv _ => true
  | _ => false
theorem str_ok {ρ : Env} {β : Lay} {x : SC} {u : Value} (h : isStr x = true) (hu : x.den ρ β = some u) : ∃ z, u = .string z := by
  unfold isStr at h
  split at h
  · exact ⟨_, (Option.some.inj hu).symm⟩
  · exact ⟨_, (Option.some.inj hu).symm⟩
  · cases h
end Go.Proofs.Ytopfaapcekiojaa.Sym
