/- What a run of the law FixupResolves is given. -/
import Derived.Test.YtddfafapahnaaaaSymL
import Derived.Test.YtddfafapahnaaaaFixE
namespace Go.Proofs.Ytddfafapahnaaaa.Sym
open Go Go.RowKit Go.Proofs.Ytddfafapahnaaaa
set_option linter.unusedVariables false

abbrev iv (j : Nat) : SC := .int .i64 (.var j)
abbrev bv (j : Nat) : SC := .bool (.bvar j)
def holeS : SV := .p (.agg [iv 0, iv 1, iv 2, .strv 0, .strv 1])
def valS : SV := .p (.agg [iv 2, .strv 0, .strv 1])
/-- of a place: section, offset, symbols -/
def placeL : List SC := [iv 3, iv 4, .osl 0 5]
/-- cells of a part -/
def ptL (t g s v n nm : Nat) : List SC := [bv t, .strv nm, iv s, iv v, bv g, iv n]
def tmL (t n s v : Nat) : List SC := [bv t, iv n, iv s, iv v]
def typeS (_ : List (Nat × Blk)) (args : List SV) : Option SV := match lSame SV.same args [holeS, .p (.c (.bool .tt))] with
  | true => some (.tup [.c (iv 30), .c (.int .i64 (.ite (.bvar 5) (.lit 0) (.lit 180)))])
  | false => match lSame SV.same args [holeS, .p (.c (.bool .ff))] with
    | true => some (.tup [.c (iv 31), .c (.int .i64 (.ite (.bvar 6) (.lit 0) (.lit 180)))])
    | false => none
def fitsS (_ : List (Nat × Blk)) (args : List SV) : Option SV := match args with
  | [h, .p (.c (.int .i64 e))] => match h.same holeS with
    | true => some (.p (.c (.bool (.papp 0 e (.lit 0) (.lit 0) (.lit 0)))))
    | false => none
  | _ => none
def partsS (e : SE) (H : List (Nat × Blk)) (args : List SV) : Option SV := match args with
  | [v, .p (.c (.fn f [(b, 0)] []))] => match v.same valS && Nat.beq f 33 with
    | true => match lk H b with
      | some k => match lSame SC.same k.cells placeL with
        | true => some (.tup [.agg (ptL 1 2 10 11 12 2 ++ ptL 3 4 20 21 22 3), .c (.bool e)])
        | false => none
      | none => none
    | false => none
  | _ => none
def findS (e1 e2 : SE) (t n s v : Nat) (_ : List (Nat × Blk)) (args : List SV) : Option SV := match lSame SV.same args [.p (.c (.strv 0)), .p (.c (iv 3)), .p (.c (iv 4)), .p (.c (.osl 0 5))] with
  | true => some (.tup [.agg (tmL 1 12 10 11), .c (.bool e1)])
  | false => match lSame SV.same args [.p (.c (.strv 1)), .p (.c (iv 3)), .p (.c (iv 4)), .p (.c (.osl 0 5))] with
    | true => some (.tup [.agg (tmL t n s v), .c (.bool e2)])
    | false => none
/-- which case: 0: no hole; 1: both names are there; 2: the first one is not; 3: the second one is not -/
def pieces : Nat → Sums
  | 1 => [(32, partsS .tt), (38, findS .tt .tt 3 22 20 21)]
  | 2 => [(32, partsS .ff), (38, findS .ff (.bvar 7) 8 42 40 41)]
  | _ => [(32, partsS .ff), (38, findS .tt .ff 3 22 20 21)]
def resSums (m : Nat) : Sums := match m with
  | 0 => [(9, patS [] (.p (.c (.bool .tt)))),
    (19, patS [holeS] (.p (.c (.int .i64 (.lit 1))))),
    (20, patS [holeS] (.p (.c (.int .i64 (.lit 1)))))]
  | m => [(9, patS [] (.p (.c (.bool .tt)))),
    (19, patS [holeS] (.p (.c (.int .i64 (.lit 0))))),
    (20, patS [holeS] (.p (.c (.int .i64 (.lit 0))))),
    (16, typeS), (17, typeS),
    (37, fitsS), (41, fitsS),
    (36, patS [holeS] (.p (.c (bv 10)))), (13, patS [holeS] (.p (.c (bv 10)))),
    (46, patS [holeS] (.p (.c (bv 11)))), (40, patS [holeS] (.p (.c (.bool (.un .not (.bin .or (.bvar 10) (.bvar 11)))))))] ++ pieces m
def resCx (P : Program) (m : Nat) : Ctx := { P := P, bd := [(5, 0, 9223372036854775808)], fb := [], sums := resSums m }
def caseS : SV := .p (.agg [iv 0, iv 1, iv 2, .strv 0, .strv 1, iv 3, iv 4, .osl 0 5])
end Go.Proofs.Ytddfafapahnaaaa.Sym
