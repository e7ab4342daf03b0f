/- The reference's Decode: what its runs are given. -/
import Derived.Test.YtopfaapcekiojaaGreatDecI
import Derived.Test.YtopfaapcekiojaaGreatDecJ
namespace Go.Proofs.YtopfaapcekiojaaGreat.Two
open Go Go.RowKit Go.Proofs.YtopfaapcekiojaaGreat Sym
set_option linter.unusedVariables false

/-- the guess of each class; its word and its error -/
structure Gs where
  y : Nat → Ins
  v : Nat → Int
  z : Nat → Int
def GsOk (w : Int) (g : Gs) : Prop := ∀ k, 1 ≤ k → k < 33 → (g.y k).wf ∧ (∀ W, Calls Tryz.prog 31 #[.int .u32 w, .int .i64 (.ofNat k)] W (Ret (g.y k).val W)) ∧ (∀ W, Calls Tryz.prog 23 #[(g.y k).val] W (Ret (.tuple #[.int .u32 (g.v k), .int .i64 (g.z k)]) W)) ∧
  (∀ W, Calls Tryz.prog 12 #[(g.y k).val] W (Ret (.tuple #[.int .u32 (g.v k), .int .i64 (g.z k)]) W)) ∧ (g.z k = 0 → DecIs (g.y k) (g.v k))
theorem one_ex (w : Int) (hw : U32 w) (k : Nat) : ∃ p : Ins × Int × Int, 1 ≤ k → k < 33 → (p.1).wf ∧ (∀ W, Calls Tryz.prog 31 #[.int .u32 w, .int .i64 (.ofNat k)] W (Ret p.1.val W)) ∧ (∀ W, Calls Tryz.prog 23 #[p.1.val] W (Ret (.tuple #[.int .u32 p.2.1, .int .i64 p.2.2]) W)) ∧
    (∀ W, Calls Tryz.prog 12 #[p.1.val] W (Ret (.tuple #[.int .u32 p.2.1, .int .i64 p.2.2]) W)) ∧ (p.2.2 = 0 → DecIs p.1 p.2.1) := by
  by_cases hk : 1 ≤ k ∧ k < 33
  · obtain ⟨y, hy, gy⟩ := ga_ok (ga_all k hk.1 hk.2) w hw
    obtain ⟨v, z, _, e1, e2, _, h⟩ := enc_two y hy
    exact ⟨(y, v, z), fun _ _ => ⟨hy, gy, e1, e2, fun z0 => (h z0).2.2.1⟩⟩
  · exact ⟨(y0, 0, 0), fun h1 h2 => absurd ⟨h1, h2⟩ hk⟩
theorem gs_ex (w : Int) (hw : U32 w) : ∃ g, GsOk w g :=
  ⟨⟨fun k => (Classical.choose (one_ex w hw k)).1, fun k => (Classical.choose (one_ex w hw k)).2.1, fun k => (Classical.choose (one_ex w hw k)).2.2⟩, fun k h1 h2 => Classical.choose_spec (one_ex w hw k) h1 h2⟩
def fldOf (y : Ins) : Int → Int
  | 0 => y.op | 1 => y.rd | 2 => y.rn | 3 => y.rm | 4 => y.ra | 5 => y.a | 6 => y.b | _ => y.c
def gF (g : Gs) : Nat → Int → Int → Int → Int → Int
  | 20, k, i, _, _ => fldOf (g.y k.toNat) i
  | 21, k, _, _, _ => g.v k.toNat
  | 22, k, _, _, _ => g.z k.toNat
  | _, _, _, _, _ => 0
def gP (g : Gs) : Nat → Int → Int → Int → Int → Bool
  | 20, k, _, _, _ => (g.y k.toNat).x
  | 21, k, _, _, _ => (g.y k.toNat).s
  | _, _, _, _, _ => false
def letW (a : Int) : Nat → Int
  | 8 => a | _ => 0
def gEnv (a : Int) (g : Gs) (w : World) : Env := ⟨letW a, fun _ => false, fun _ => .nilFunc, gF g, gP g, w.heap.size, w, fun _ => (none, 0), fun _ => ⟨#[]⟩⟩
def ap (f k : Nat) (i : Int) : SE := .app f (.lit (.ofNat k)) (.lit i) (.lit 0) (.lit 0)
def pp (f k : Nat) : SE := .papp f (.lit (.ofNat k)) (.lit 0) (.lit 0) (.lit 0)
def gCells (k : Nat) : List SC := [.int .i64 (ap 20 k 0), .bool (pp 20 k), .bool (pp 21 k), .int .i64 (ap 20 k 1), .int .i64 (ap 20 k 2), .int .i64 (ap 20 k 3), .int .i64 (ap 20 k 4), .int .i64 (ap 20 k 5), .int .i64 (ap 20 k 6), .int .i64 (ap 20 k 7)]
theorem gCells_den (a : Int) (g : Gs) (w : World) (k : Nat) (β : Lay) : (SP.agg (gCells k)).den (gEnv a g w) β = some (g.y k).val := rfl
def wS : SV := .p (.c (.int .u32 (.var 8)))
def condT (k : Nat) : SE := .bin .and (.bin .eq (ap 22 k 0) (.lit 0)) (.bin .eq (ap 21 k 0) (.var 8))
def pats1 : Nat → Nat → List (List SV × SV)
  | 0, _ => []
  | n + 1, k => ([wS, .p (.c (.int .i64 (.lit (.ofNat k))))], .p (.agg (gCells k))) :: pats1 n (k + 1)
def pats2 : Nat → Nat → List (List SV × SV)
  | 0, _ => []
  | n + 1, k => ([.p (.agg (gCells k))], .tup [.c (.int .u32 (ap 21 k 0)), .c (.int .i64 (ap 22 k 0))]) :: pats2 n (k + 1)
def axs : Nat → Nat → List (SE × Bool)
  | 0, _ => []
  | n + 1, k => (condT k, false) :: axs n (k + 1)
noncomputable def rSums : Sums := [(31, patsS (pats1 32 1)), (12, patsS (pats2 32 1))]
noncomputable def rCx (ax : List (SE × Bool)) : Ctx := { P := Tryz.prog, bd := [(8, 0, 4294967295)], fb := [], sums := rSums, ax := ax }
noncomputable def runR (d : SV) (ax : List (SE × Bool)) : Bool := chkB (rCx ax) 9 [wS] (fun pc v => eqV pc v d)
def okD (k : Nat) : SV := .tup [.agg (gCells k), .c (.int .i64 (.lit 0))]
def noD : SV := .tup [.agg zeroL, .c (.int .i64 (.lit 4))]
def okA (k : Nat) : List (SE × Bool) := axs (k - 1) 1 ++ [(.bin .eq (ap 22 k 0) (.lit 0), true), (.bin .eq (ap 21 k 0) (.var 8), true)]
noncomputable def twoB (k : Nat) : Bool := runR (okD k) (okA k)
end Go.Proofs.YtopfaapcekiojaaGreat.Two
