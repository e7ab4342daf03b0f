/- EncFixed: what its run is given. -/
import Derived.Test.YtopfaapcekiojaaDoorFxB
import Derived.Test.YtopfaapcekiojaaDoorRunW
namespace Go.Proofs.YtopfaapcekiojaaDoor.lawEncFixed
open Go Go.RowKit Go.Proofs.YtopfaapcekiojaaDoor Sym
set_option linter.unusedVariables false

/-- TrailingZeros64 of a known number -/
def tzS (_ : PC) (_ : List (Nat × Blk)) (args : List SV) : Option SV := match args with
  | [.p (.c (.int .u64 (.lit (.ofNat n))))] => match Nat.blt n 18446744073709551616 with
    | true => some (.p (.c (.int .i64 (.lit (.ofNat (Lib.ctz 64 n))))))
    | false => none
  | _ => none
theorem tz_s {cx : Ctx} {ρ : Env} (hP : cx.P = Tryd.prog) (hT : Tab ρ.w0) (hg : 0 < ρ.B) : SumOk cx ρ 43 tzS := by
  intro pc H args u hu ok L β vals w n hW ha
  unfold tzS at hu
  split at hu
  · rename_i k
    split at hu
    · rename_i hk
      cases hu
      cases ha
      refine ⟨_, rfl, ?_⟩
      rw [hP]
      exact of_same (tz_any k (Nat.lt_of_not_le fun h => by have := Nat.le_of_ble_eq_true hk; omega) w (hT.below hW.below hg))
    · cases hu
  · cases hu
def letE (v z : Int) : Nat → Int
  | 0 => v | 1 => z | _ => 0
noncomputable def lawSums (b m : Nat) (z : SE) : Sums := [(4, patS [] (.p (.c (.bool .tt)))), (5, patS [instS (.var 7)] (.tup [.c (.int .u32 (.var 8)), .c (.int .i64 z)])), (6, patS [.p (.c (.int .i64 (.var 7)))] (baseV b m)), (43, tzS), (42, onesS)]
noncomputable def fxCx (b m : Nat) : Ctx := { P := Tryd.prog, bd := [], fb := [], sums := lawSums b m (.lit 0), ax := [(.bin (.mt m b) (.var 8) (.lit 0), true)] }
noncomputable def runB (k : Nat) : Bool := allTrue (runF (fxCx (fixB k) (fixM k)) 300 3 [instS (.var 7)] [] 0)
noncomputable def badCx : Ctx := { P := Tryd.prog, bd := [], fb := [], sums := [(4, patS [] (.p (.c (.bool .tt)))), (5, patS [instS (.var 7)] (.tup [.c (.int .u32 (.var 8)), .c (.int .i64 (.var 9))]))], ax := [(.bin .eq (.var 9) (.lit 0), false)] }
noncomputable def badB : Bool := allTrue (runF badCx 300 3 [instS (.var 7)] [] 0)
end Go.Proofs.YtopfaapcekiojaaDoor.lawEncFixed
