/- Runs of laws about instructions, for each class. -/
import Derived.Test.YtopfaapcekiojaaInsE
import Derived.Test.YtopfaapcekiojaaInsF
namespace Go.Proofs.Ytopfaapcekiojaa
open Go.ChangeShapes Go.WideShapes Go.ChangeAt Go.RowKit Go.Deep
set_option linter.unusedVariables false
namespace Sym
noncomputable section
/-- the contracts of a law: its own, and all those by runs -/
def lawSums (more : Sums) : Sums := more ++ sm_cooper_cooperref04_Reach
noncomputable def lawCx (bd : List (Nat × Int × Int)) (more : Sums) : Ctx := { P := Try.prog, bd := bd, fb := [], sums := lawSums more }
theorem law_ok {y : Ins} {e : Nat → Int} {t : Nat → Bool} {w : World} {bd : List (Nat × Int × Int)} {more : Sums} (hb : BdOk bd (insI y e)) : (lawCx bd more).Ok (insEnv y e t w) :=
  ⟨hb, (by intro i l h e; cases e), fun _ => rfl, insM, (by intro p hp; cases hp)⟩
theorem law_sums {y : Ins} {e : Nat → Int} {t : Nat → Bool} {w : World} {bd : List (Nat × Int × Int)} {more : Sums} (h : ∀ p ∈ more, SumOk (lawCx bd more) (insEnv y e t w) p.1 p.2) : SumsOk (lawCx bd more) (insEnv y e t w) := by
  refine sums_of fun p hp => ?_
  rcases List.mem_append.1 hp with hp | hp
  · exact h p hp
  · exact ok_cooper_cooperref04_Reach _ _ (insGood y e t w) (fun _ => rfl) rfl p hp
/-- a law, run: it is true -/
theorem law_run {y : Ins} {e : Nat → Int} {t : Nat → Bool} {w : World} {bd : List (Nat × Int × Int)} {more : Sums} (hb : BdOk bd (insI y e)) (hm : ∀ p ∈ more, SumOk (lawCx bd more) (insEnv y e t w) p.1 p.2) {f : FuncId} {args : List SV} {vals : List Value} (ha : denA (insEnv y e t w) noLay args = some vals)
    (h : allTrue (runF (lawCx bd more) 300 f args [] 0) = true) : Calls Try.prog f vals.toArray w (Ret (.bool true) w) :=
  runF_true (law_ok hb) (law_sums hm) insM rfl rfl ha h
/-- the world that a context is read in says nothing of terms -/
theorem den_same {y : Ins} {e : Nat → Int} {t : Nat → Bool} (w w' : World) : ∀ v : SE, v.den (insEnv y e t w') = v.den (insEnv y e t w) := by
  intro v
  induction v with
  | un o a ih => simp only [SE.den, ih]
  | bin o a b iha ihb => simp only [SE.den, iha, ihb]
  | ite c a b ihc iha ihb => simp only [SE.den, ihc, iha, ihb]
  | bite c a b ihc iha ihb => simp only [SE.den, ihc, iha, ihb]
  | app f a b c d iha ihb ihc ihd => simp only [SE.den, iha, ihb, ihc, ihd]; rfl
  | papp f a b c d iha ihb ihc ihd => simp only [SE.den, iha, ihb, ihc, ihd]; rfl
  | _ => rfl
theorem ag_env {y : Ins} {e : Nat → Int} {t : Nat → Bool} {w w' : World} (v : SE) : v.int (insEnv y e t w') = v.int (insEnv y e t w) := by
  show (v.den _).1 = (v.den _).1
  rw [den_same w w']
theorem den_env {y : Ins} {e : Nat → Int} {t : Nat → Bool} {w w' : World} {β : Lay} (l : List SV) : denA (insEnv y e t w') β l = denA (insEnv y e t w) β l := by
  have sameC : ∀ (x : SC), x.den (insEnv y e t w') β = x.den (insEnv y e t w) β := by
    intro x
    cases x with
    | int k v => show some (Value.int k (v.den _).1) = some (Value.int k (v.den _).1); rw [den_same w w']
    | bool v => show some (Value.bool (v.den _).2) = some (Value.bool (v.den _).2); rw [den_same w w']
    | _ => rfl
  have sameL : ∀ (l : List SC), denL (insEnv y e t w') β l = denL (insEnv y e t w) β l := by
    intro l
    induction l with
    | nil => rfl
    | cons x r ih => unfold denL; rw [sameC, ih]
  have sameP : ∀ (x : SP), x.den (insEnv y e t w') β = x.den (insEnv y e t w) β := by
    intro x
    cases x with
    | c x => exact sameC x
    | agg l => show (denL _ β l).map _ = (denL _ β l).map _; rw [sameL]
  have samePs : ∀ (l : List SP), denP (insEnv y e t w') β l = denP (insEnv y e t w) β l := by
    intro l
    induction l with
    | nil => rfl
    | cons x r ih => unfold denP; rw [sameP, ih]
  have sameV : ∀ (x : SV), x.den (insEnv y e t w') β = x.den (insEnv y e t w) β := by
    intro x
    cases x with
    | p x => exact sameP x
    | tup l => show (denP _ β l).map _ = (denP _ β l).map _; rw [samePs]
    | undef => rfl
    | gd c x => show (if (c.den _).2 then x.den _ β else _) = (if (c.den _).2 then x.den _ β else _); rw [den_same w w', sameP]
  induction l with
  | nil => rfl
  | cons x r ih => unfold denA; rw [sameV, ih]
/-- two functions that give the same number -/
def bothOk (ts1 ts2 : List Tpl) (bd : List (Nat × Int × Int)) (args : List SV) : Bool := match tplsSum ts1 ⟨bd, [], [], [], [], false⟩ [] args, tplsSum ts2 ⟨bd, [], [], [], [], false⟩ [] args with
  | some (.p (.c (.int .i64 a))), some (.p (.c (.int .i64 b))) => prove (mkEq ⟨bd, [], [], [], [], false⟩ a b) 100 ⟨bd, [], [], [], [], false⟩
  | _, _ => false
/-- two functions that give the same, word by word -/
def sameOk (ts1 ts2 : List Tpl) (bd : List (Nat × Int × Int)) (args : List SV) : Bool := match tplsSum ts1 ⟨bd, [], [], [], [], false⟩ [] args, tplsSum ts2 ⟨bd, [], [], [], [], false⟩ [] args with
  | some a, some b => a.same b
  | _, _ => false
section
variable {y : Ins} {e : Nat → Int} {t : Nat → Bool} {w : World} {bd : List (Nat × Int × Int)}
theorem pc_bd (hb : BdOk bd (insI y e)) : PcOk (insEnv y e t w) ⟨bd, [], [], [], [], false⟩ := ⟨hb, (by intro i l h q; cases q), (by intro x q; cases q), (by intro x q; cases q), (by intro x q; cases q), rfl⟩
theorem both_ok (hb : BdOk bd (insI y e)) {ts1 ts2 : List Tpl} {f1 f2 : FuncId} (m1 : (f1, tplsSum ts1) ∈ sm_cooper_cooperref04_Reach) (m2 : (f2, tplsSum ts2) ∈ sm_cooper_cooperref04_Reach) {args : List SV} {vals : List Value} (ha : denA (insEnv y e t w) noLay args = some vals) (h : bothOk ts1 ts2 bd args = true) :
    ∃ z, (∃ se : SE, z = se.int (insEnv y e t w)) ∧ ∀ w', Calls Try.prog f1 vals.toArray w' (Ret (.int .i64 z) w') ∧ Calls Try.prog f2 vals.toArray w' (Ret (.int .i64 z) w') := by
  unfold bothOk at h
  split at h
  · rename_i a b h1 h2
    have := prove_ok 100 (pc_bd (t := t) (w := w) hb) h
    rw [mkEq_ok (pc_bd hb)] at this
    have he : a.int (insEnv y e t w) = b.int (insEnv y e t w) := by simpa using this
    refine ⟨a.int (insEnv y e t w), ⟨a, rfl⟩, fun w' => ?_⟩
    have go : ∀ (f : FuncId) (ts : List Tpl) (v : SE), (f, tplsSum ts) ∈ sm_cooper_cooperref04_Reach → tplsSum ts ⟨bd, [], [], [], [], false⟩ [] args = some (.p (.c (.int .i64 v))) → v.int (insEnv y e t w) = a.int (insEnv y e t w) → Calls Try.prog f vals.toArray w' (Ret (.int .i64 (a.int (insEnv y e t w))) w') := by
      intro f ts v hm hv hvv
      have ag : ∀ v : SE, v.int (insEnv y e t w') = v.int (insEnv y e t w) := fun v => ag_env v
      obtain ⟨x, hx, hc⟩ := ok_cooper_cooperref04_Reach (lawCx bd []) (insEnv y e t w') (insGood y e t w') (fun _ => rfl) rfl (f, tplsSum ts) hm _ _ _ _ hv (pc_bd (t := t) (w := w') hb) ⟨[], []⟩ noLay vals w' 0 (WR.start _ _ _ _) (by rw [den_env]; exact ha)
      have : x = .int .i64 (a.int (insEnv y e t w)) := by
        have : some (Value.int .i64 (v.int (insEnv y e t w'))) = some x := hx
        rw [← Option.some.inj this, ag, hvv]
      rw [this] at hc
      exact hc
    exact ⟨go f1 ts1 a m1 h1 rfl, go f2 ts2 b m2 h2 he.symm⟩
  · cases h
end
end
end Sym
end Go.Proofs.Ytopfaapcekiojaa
