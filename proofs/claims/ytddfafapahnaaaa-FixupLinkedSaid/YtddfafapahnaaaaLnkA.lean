/- FixupLinked: what its runs are given. -/
import Derived.Test.YtddfafapahnaaaaSymL
import Derived.Test.YtddfafapahnaaaaSymJ
import Derived.Test.YtddfafapahnaaaaFixP
import Derived.Test.YtddfafapahnaaaaEncS
namespace Go.Proofs.Ytddfafapahnaaaa.Lnk
open Go Go.RowKit Go.Proofs.Ytddfafapahnaaaa Sym
set_option linter.unusedVariables false
noncomputable section

def iv (j : Nat) : SC := .int .i64 (.var j)
def bv (j : Nat) : SC := .bool (.bvar j)
/-- a hole: of a known kind and size, or of any -/
def hL (k s : SE) : List SC := [.int .i64 k, .int .i64 s, iv 2, .strv 0, .strv 1]
def valS : SV := .p (.agg [iv 2, .strv 0, .strv 1])
def placeL : List SC := [iv 3, iv 4, .osl 0 5]
def ptL (t g s v n nm : Nat) : List SC := [bv t, .strv nm, iv s, iv v, bv g, iv n]
def partsS (e : SE) (_ : PC) (H : List (Nat × Blk)) (args : List SV) : Option SV := match args with
  | [v, .p (.c (.fn f [(b, 0)] []))] => match v.same valS && Nat.beq f 33 with
    | true => match lk H b with
      | some k => match lSame SC.same k.cells placeL with
        | true => some (.tup [.agg (ptL 1 2 10 11 12 2 ++ ptL 3 4 20 21 22 3), .c (.bool e)])
        | false => none
      | none => none
    | false => none
  | _ => none
/-- a section's number that is known to be another's -/
def repE (pc : PC) (e : SE) : SE := match decT pc (mkEq pc e (.var 3)) with
  | some true => .var 3
  | _ => match decT pc (mkEq pc e (.var 10)) with
    | some true => .var 10
    | _ => e
/-- a section's address -/
def secE (pc : PC) (e : SE) : SE := match decT pc (mkLt pc e (.lit 0)) with
  | some true => .lit 0
  | _ => .app 0 (repE pc e) (.lit 0) (.lit 0) (.lit 0)
/-- a name's address: is it there, its section, its value, its address elsewhere -/
def adrE (pc : PC) (t s v x : SE) : SE := chooseS pc t (chooseS pc (mkEq pc s (.lit (-1))) x (mkWrap pc .i64 (mkAdd pc (secE pc s) v))) (.lit 0)
def caseL (k s : SE) : SV := .p (.agg [.int .i64 k, .int .i64 s, iv 2, .strv 0, .strv 1, iv 3, iv 4, .osl 0 5])
def outL : List SV := [.p (.c (.osl 2 7)), .p (.c (.osl 3 8))]
def adrS (k s : SE) (pc : PC) (_ : List (Nat × Blk)) (args : List SV) : Option SV := match args with
  | nm :: r => match lSame SV.same r (caseL k s :: outL) with
    | true => match nm with
      | .p (.c (.strv 0)) => some (.tup [.c (.int .i64 (adrE pc (.bvar 1) (.var 10) (.var 11) (.var 30))), .c (.bool .tt)])
      | .p (.c (.strv 1)) => some (.tup [.c (.int .i64 (adrE pc (.bvar 3) (.var 20) (.var 21) (.var 31))), .c (.bool .tt)])
      | .p (.c (.str z)) => match decide (z.data.toList = [46]) with
        | true => some (.tup [.c (.int .i64 (mkWrap pc .i64 (mkAdd pc (secE pc (.var 3)) (.var 4)))), .c (.bool .tt)])
        | false => none
      | _ => none
    | false => none
  | _ => none
def iaL : List (Nat × Nat × TypeId × SE × Nat) := [(0, 5, 44, .var 12, 40)]
def thereE : SE := .bin .and (.bvar 1) (.un .not (.bin .lt (.var 12) (.lit 0)))
def faL : List (Nat × TypeId × Nat × SE × Nat) := [(40, 44, 0, thereE, 41)]
def flL : List (Nat × TypeId × SE × SP) := [(41, 9, thereE, .c (.strv 0))]
/-- a symbol's number is one of those there are -/
def inE : SE := .bin .and (.bvar 1) (.un .not (.bin .lt (.var 12) (.var 5)))
def wide : Int × Int := (-9223372036854775808, 9223372036854775807)
def bdL : List (Nat × Int × Int) := [(5, 0, 9223372036854775807), (7, 0, 9223372036854775807), (8, 0, 9223372036854775807), (2, wide), (3, wide), (4, wide), (10, wide), (11, wide), (12, wide), (20, wide), (21, wide), (22, wide), (30, wide), (31, wide)]
def lnkSums (k s : SE) (z : Int) (b : Bool) : Sums := (9, patS [] (.p (.c (.bool .tt)))) :: (19, patS [.p (.agg (hL k s))] (.p (.c (.int .i64 (.lit z))))) :: (32, partsS (litB b)) :: (match b with | true => [(12, adrS k s)] | false => [])
def lnkCx (k s : SE) (z : Int) (b : Bool) : Ctx := { P := Try.prog, bd := bdL, fb := [(0, wide)], sums := lnkSums k s z b, ax := [(.bin .lt (.var 3) (.lit 0), false), (inE, false)], ia := iaL, fl := flL, fa := faL }
/-- a section below 0: nothing is called -/
def lnkCxN : Ctx := { P := Try.prog, bd := bdL, fb := [(0, wide)], sums := [(9, patS [] (.p (.c (.bool .tt))))], ax := [(.bin .lt (.var 3) (.lit 0), true)] }
def lnkB (k s : SE) (z : Int) (b : Bool) : Bool := allTrue (runF (lnkCx k s z b) 300 4 (caseL k s :: outL) [] 0)
def lnkN : Bool := allTrue (runF lnkCxN 300 4 (caseL (.var 0) (.var 1) :: outL) [] 0)
end
end Go.Proofs.Ytddfafapahnaaaa.Lnk
