/- FixupFills and FixupBack: what their runs are given; bytes.Equal. -/
import Derived.Test.YtddfafapahnaaaaSymL
import Derived.Test.YtddfafapahnaaaaSymJ
import Derived.Test.YtddfafapahnaaaaEncS
import Derived.Test.YtddfafapahnaaaaWordW
import Derived.Test.YtddfafapahnaaaaFixC
namespace Go.Proofs.Ytddfafapahnaaaa.Fil
open Go Go.RowKit Go.Proofs.Ytddfafapahnaaaa Sym
set_option linter.unusedVariables false
noncomputable section

def iv (j : Nat) : SC := .int .i64 (.var j)
/-- a hole: of a known kind and size, or of any -/
def hL (k s : SE) : List SC := [.int .i64 k, .int .i64 s, iv 2, .strv 0, .strv 1]
def bS : SV := .p (.c (.osl 1 6))
/-- a byte's letter -/
def byL (j : Nat) : SE := .var (60 + j)
def iaF : List (Nat × Nat × TypeId × SE × Nat) := [0, 1, 2, 3, 4, 5, 6, 7].map fun j => (1, 6, 5, .lit (.ofNat j), 40 + j)
def flF : List (Nat × TypeId × SE × SP) := [0, 1, 2, 3, 4, 5, 6, 7].map fun j => (40 + j, 5, .bin .lt (.lit (.ofNat j)) (.var 6), .c (.int .u8 (byL j)))
/-- bytes as terms, those whose values are known to be bytes -/
def u8L (pc : PC) : List SC → Option (List SE)
  | [] => some []
  | x :: r => match x with
    | .int .u8 e => match low (bnd pc e) 8, u8L pc r with
      | true, some l => some (e :: l)
      | _, _ => none
    | _ => none
def takeB (pc : PC) : Nat → Nat → Option (List SE)
  | 0, _ => some []
  | n + 1, j => match low (bnd pc (byL j)) 8, takeB pc n (j + 1) with
    | true, some l => some (byL j :: l)
    | _, _ => none
def bytesS (P : Program) (pc : PC) (H : List (Nat × Blk)) (v : SV) : Option (List SE) := match v with
  | .p (.c .nils) => some []
  | .p (.c (.osl 1 6)) => match evalE pc (.var 6) with
    | some (.ofNat n) => match Nat.ble n 8 with
      | true => takeB pc n 0
      | false => none
    | _ => none
  | .p (.c x) => match Nat.beq (P.cellsOf 5) 1, elemsS P H 5 x with
    | true, some (_, l) => u8L pc l
    | _, _ => none
  | _ => none
/-- a byte's eight bits are the byte -/
def fix8 (pc : PC) (e : SE) : SE := match e with
  | .un (.bits 0 8) x => match low (bnd pc x) 8 with
    | true => x
    | false => e
  | e => e
def eqLs (pc : PC) : List SE → List SE → SE
  | [], [] => .tt
  | a :: r, b :: t => mkAnd (mkEq pc (fix8 pc a) (fix8 pc b)) (eqLs pc r t)
  | _, _ => .ff
def equalS (P : Program) (pc : PC) (H : List (Nat × Blk)) (args : List SV) : Option SV := match args with
  | [a, b] => match bytesS P pc H a, bytesS P pc H b with
    | some l, some m => some (.p (.c (.bool (eqLs pc l m))))
    | _, _ => none
  | _ => none
section
variable (w : World) (kd sz add v : Int) (pl mi : ByteArray) (nb cb : Nat) (Ab : Option Addr) (lb : List Int)
/-- what the letters are -/
def filEnv : Env :=
  { i := fun j => match j with
      | 0 => kd | 1 => sz | 2 => add | 3 => v | 6 => nb
      | 60 => lb.getD 0 0 | 61 => lb.getD 1 0 | 62 => lb.getD 2 0 | 63 => lb.getD 3 0 | 64 => lb.getD 4 0 | 65 => lb.getD 5 0 | 66 => lb.getD 6 0 | 67 => lb.getD 7 0
      | _ => 0
    b := fun _ => false
    v := fun j => match Ab with
      | some a => .pointer (some ⟨a.block, a.off + (j - 40), none⟩)
      | none => .nilFunc
    f := fun _ _ _ _ _ => 0
    p := fun _ _ _ _ _ => false
    B := w.heap.size
    w0 := w
    sl := fun _ => (Ab, cb)
    s := fun j => match j with | 0 => pl | _ => mi }
end
def bdF : List (Nat × Int × Int) := [(3, -9223372036854775808, 9223372036854775807), (6, 0, 9223372036854775807), (60, 0, 255), (61, 0, 255), (62, 0, 255), (63, 0, 255), (64, 0, 255), (65, 0, 255), (66, 0, 255), (67, 0, 255)]
def filSums (k s : SE) (z : Int) : Sums := [(9, patS [] (.p (.c (.bool .tt)))), (19, patS [.p (.agg (hL k s))] (.p (.c (.int .i64 (.lit z))))), (20, patS [.p (.agg (hL k s))] (.p (.c (.int .i64 (.lit z))))),
  (70, putS32), (65, getS32), (66, signS), (59, fits64S), (60, onesS),
  (64, putS32), (68, getS32), (56, signS), (63, fits64S), (30, equalS Try.prog)]
def filCx (k s : SE) (z : Int) : Ctx := { P := Try.prog, bd := bdF, fb := [], sums := filSums k s z, ia := iaF, fl := flF }
def filB (f : FuncId) (k s : SE) (z : Int) : Bool := allTrue (runF (filCx k s z) 300 f [bS, .p (.agg (hL k s)), .p (.c (iv 3))] [] 0)
end
end Go.Proofs.Ytddfafapahnaaaa.Fil
