/- A region that draws its order in the body of a range over a function: one walk serves every order, though calls lay blocks. -/
import Derived.Test.YtopfaapcekiojaaGreatBase
import Derived.Lib.QuietBelowIn
import Derived.Sort.BigQuietIn
import Derived.RangeFuncCalls
import Derived.TacticsIn
namespace Go.Proofs.YtopfaapcekiojaaGreat
open Go.RowKit Go.Sort
set_option linter.unusedVariables false

/-- an operation that is no defer statement -/
def plainOp (o : Oper) : Bool := match o.op with
  | .defer _ => false
  | _ => true
theorem plainOp_ne {o : Oper} (h : plainOp o = true) : ∀ c, o.op ≠ .defer c := fun c e => by simp [plainOp, e] at h
variable {F : Fence} {n : Nat} {P : Program} {ops : Array Oper} {Q : Exit → Act → World → Prop} {md : Region.Mode}
theorem oper_round {o : Oper} {a : Act} {w : World} {K : Act → World → Prop} (hro : F.round = none) (l : Nat) (hd : plainOp o = true) (h : o.wpIn F n P a w K Q) : o.wpIn (F.inRound l) n P a w K Q := by
  refine ⟨h.1, ?_⟩
  have h2 := h.2
  rw [hro, Oper.semAt_none] at h2
  rw [Fence.inRound_round, Oper.semAt_some l _ _ (plainOp_ne hd)]
  exact h2
theorem op_round {i : Nat} {K K' : Act → World → Prop} {a : Act} {w : World} (hro : F.round = none) (l : Nat) (hd : ∀ (i : Nat) (o : Oper), ops[i]? = some o → plainOp o = true) (hK : ∀ a w, K a w → K' a w) (h : wpOpIn F n P ops Q i K a w) : wpOpIn (F.inRound l) n P ops Q i K' a w := by
  have h' := wpOpIn_mono hK h
  unfold wpOpIn at h' ⊢
  split
  · rename_i ho; simp only [ho] at h'; exact h'
  · rename_i o ho
    simp only [ho] at h'
    split
    · rename_i hw; rw [if_pos hw] at h'; exact oper_round hro l (hd _ _ ho) h'
    · rename_i hw; rw [if_neg hw] at h'; exact h'
theorem any_round (hro : F.round = none) (l : Nat) (hd : ∀ (i : Nat) (o : Oper), ops[i]? = some o → plainOp o = true) : ∀ (fuel : Nat) (listed : Array Bool) (a : Act) (w : World), wpAnyIn F n P md ops Q fuel listed a w → wpAnyIn (F.inRound l) n P md ops Q fuel listed a w
  | 0, _, _, _, h => h
  | fuel + 1, _, _, _, h => ⟨h.1, fun i hi => op_round hro l hd (fun a w => any_round hro l hd fuel _ a w) (h.2 i hi)⟩
/-- such a region, in a round -/
theorem region_round {id : Nat} {a : Act} {w : World} {L : List Oper} (hro : F.round = none) (l : Nat) (hm : P.follows .mixedOrders = true) (hB : Region.lexB .any L.toArray = true) (hd : L.all plainOp = true)
    (h : wpQuietIn F n P L.toArray (fun w' => ∃ p : Regrown, w' = grow (redrawn w p.d) p.os) (fun a' => ∀ w', (∃ p : Regrown, w' = grow (redrawn w p.d) p.os) → Q .normal a' w') L a) : (Code.region id L.toArray true).wpIn (F.inRound l) n P Q a w := by
  simp only [Region.lexB, Bool.and_eq_true] at hB
  have hd' : ∀ (i : Nat) (o : Oper), L.toArray[i]? = some o → plainOp o = true := fun i o ho => by
    have := List.all_eq_true.1 hd o
    exact this (List.mem_of_getElem? (by simpa using ho))
  refine wpIn_region_any hm (any_round hro l hd' _ _ _ _ (wpAnyIn_of_quiet (C := fun w' => ∃ p : Regrown, w' = grow (redrawn w p.d) p.os) (Q := fun a' => ∀ w', (∃ p : Regrown, w' = grow (redrawn w p.d) p.os) → Q .normal a' w') hro (fun _ w' hw' h => h w' hw') _ _ _ _ ⟨⟨w.drawn + 1, #[]⟩, by rw [grow_empty]; rfl⟩ ?_))
  have := wpAnyQIn_lex (F := F) (n := n) (C := fun w' => ∃ p : Regrown, w' = grow (redrawn w p.d) p.os) (md := .any) hB.1 L 0 (Array.replicate L.toArray.size false) a (by simp) (by simpa using hB.2) h
  simpa using this
/-- a plain contract met in such a region -/
theorem grIn {f : FuncId} {args : Array Value} {w : World} {d : Nat} {os : Array Obj} {v : Value}
    (h : Calls P f args (grow (redrawn w d) os) (Ret v (grow (redrawn w d) os))) : CallsIn Fence.wide n P f args (grow (redrawn w d) os) fun e w'' => e = .returned v ∧ ∃ p : Regrown, w'' = grow (redrawn w p.d) p.os := callsIn_wide.2 (gr h)
/-- the wide fence asks nothing -/
theorem wide_fn (f : Nat) : Fence.wide.fn f = True := rfl
theorem asked_wide {P : Program} {o : Oper} {a : Act} {C : World → Prop} : Oper.askedIn Fence.wide P o a C = True := eq_true fun _ _ _ _ => trivial
end Go.Proofs.YtopfaapcekiojaaGreat
