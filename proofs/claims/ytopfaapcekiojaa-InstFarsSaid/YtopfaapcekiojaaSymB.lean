/- The symbolic executor itself: operations, code. -/
import Derived.Test.YtopfaapcekiojaaSymM
import Derived.OrdersIn
import Derived.LoopNIn
import Derived.RangeFuncCalls
namespace Go.Proofs.Ytopfaapcekiojaa.Sym
open Go Go.RowKit Go.Proofs.Ytopfaapcekiojaa
noncomputable section
set_option linter.unusedVariables false

/-- a function's number and what it gives: a value out of its arguments' values, where it is known -/
abbrev Sums := List (FuncId × (PC → List (Nat × Blk) → List SV → Option SV))
structure Ctx where
  P : Program
  bd : List (Nat × Int × Int)
  fb : List (Nat × Int × Int)
  sums : Sums
  /-- the functions whose ends are brought together -/
  mrg : List FuncId := []
  /-- truths that are known of the letters from the start -/
  ax : List (SE × Bool) := []
def PC.start (cx : Ctx) : PC := ⟨cx.bd, cx.fb, [], [], [], false⟩
def assumes : List (SE × Bool) → PC → PC
  | [], p => p
  | (e, t) :: r, p => assumes r (assume p e t)
def absC : Value → Option SC
  | .bool b => some (.bool (match b with | true => .tt | false => .ff))
  | .int k n => some (.int k (.lit n))
  | .string s => some (.str s)
  | .pointer none => some .nilp
  | .slice none 0 0 => some .nils
  | .nilFunc => some .nilf
  | _ => none
def absL : List Value → Option (List SC)
  | [] => some []
  | v :: r => match absC v, absL r with
    | some x, some l => some (x :: l)
    | _, _ => none
def absP (v : Value) : Option SP := match v with
  | .agg cs => (absL cs.toList).map .agg
  | v => (absC v).map .c
def opv (s : St) : Operand → Option SV
  | .tmp t => lk s.F t
  | .const v => (absP v).map .p
  | .func f => some (.p (.c (.fn f [] [])))
  | .global _ => none
def decT (pc : PC) (e : SE) : Option Bool := match e with
  | .tt => some true
  | .ff => some false
  | e => dec pc e
def strip (pc : PC) : SV → Option SP
  | .p x => some x
  | .gd c x => match dec pc c with
    | some true => some x
    | _ => none
  | _ => none
def opp (s : St) (pc : PC) (x : Operand) : Option SP := match opv s x with
  | some v => strip pc v
  | none => none
def opc (s : St) (pc : PC) (x : Operand) : Option SC := match opp s pc x with
  | some (.c x) => some x
  | _ => none
def SP.cells : SP → List SC
  | .c x => [x]
  | .agg l => l
def splice (l : List SC) (off : Nat) (x : List SC) : List SC := l.take off ++ x ++ l.drop (off + x.length)
def fillS (place : Nat → Option (Nat × Nat)) (cells : List SC) : List (Nat × SP) → Option (List SC)
  | [] => some cells
  | (i, v) :: rest => match place i with
    | none => none
    | some (off, size) => match Nat.beq v.cells.length size && Nat.ble (off + v.cells.length) cells.length with
      | true => fillS place (splice cells off v.cells) rest
      | false => none
def isAggT (P : Program) (t : TypeId) : Option Bool := match P.underlying t with
  | some (.struct _) | some (.array _ _) => some true
  | some _ => some false
  | none => none
def zeroS (P : Program) (t : TypeId) : Option SP := match P.info? t with
  | some i => match i.zero with
    | some v => absP v
    | none => none
  | none => none
def setH : List (Nat × Blk) → Nat → Blk → List (Nat × Blk)
  | [], _, _ => []
  | (u, v) :: r, b, k => match Nat.beq b u with
    | true => (u, k) :: r
    | false => (u, v) :: setH r b k
def delH : List (Nat × Blk) → Nat → List (Nat × Blk)
  | [], _ => []
  | (u, v) :: r, b => match Nat.beq b u with
    | true => delH r b
    | false => (u, v) :: delH r b
def loadS (P : Program) (H : List (Nat × Blk)) (t : TypeId) (b off : Nat) : Option SP := match lk H b, isAggT P t with
  | some k, some true => match Nat.ble (off + P.cellsOf t) k.cells.length with
    | true => some (.agg ((k.cells.drop off).take (P.cellsOf t)))
    | false => none
  | some k, some false => (k.cells[off]?).map .c
  | _, _ => none
def partS (P : Program) (t : TypeId) (l : List SC) (off : Nat) : Option SP := match isAggT P t with
  | some true => match Nat.ble (off + P.cellsOf t) l.length with
    | true => some (.agg ((l.drop off).take (P.cellsOf t)))
    | false => none
  | some false => (l[off]?).map .c
  | none => none
def binS (pc : PC) (op : BinOp) (x y : SP) : Option SC := match x, y with
  | .c (.int k a), .c (.int k' b) => match op with
    | .shl => match b with
      | .lit m => match intLe 0 m with
        | true => some (.int k (mkWrap pc k (mkMul a (.lit (p2 (min m.toNat k.bits))))))
        | false => none
      | _ => none
    | .shr => match b with
      | .lit m => match intLe 0 m with
        | true => some (.int k (mkShr pc (min m.toNat k.bits) a))
        | false => none
      | _ => none
    | op => match kSame k k' with
      | false => none
      | true => match op with
        | .add => some (.int k (mkWrap pc k (mkAdd pc a b)))
        | .sub => some (.int k (mkWrap pc k (mkSub a b)))
        | .mul => some (.int k (mkWrap pc k (mkMul a b)))
        | .quo => match b with
          | .lit m => match intSame m 0 with
            | true => none
            | false => some (.int k (mkWrap pc k (mkQuo pc a m)))
          | _ => none
        | .rem => match b with
          | .lit m => match intSame m 0 with
            | true => none
            | false => some (.int k (mkRem pc a m))
          | _ => none
        | .and => some (.int k (mkBand pc k a b))
        | .or => some (.int k (mkBor pc k a b))
        | .xor => some (.int k (mkInt (.bxor k) a b))
        | .andNot => some (.int k (mkInt (.bclr k) a b))
        | .eql => some (.bool (mkEq pc a b))
        | .neq => some (.bool (mkNot (mkEq pc a b)))
        | .lss => some (.bool (mkLt pc a b))
        | .leq => some (.bool (mkLe pc a b))
        | .gtr => some (.bool (mkLt pc b a))
        | .geq => some (.bool (mkLe pc b a))
        | _ => none
  | _, _ => none
def sgnS (op : BinOp) (e : SE) : Option SE := match op with
  | .eql => some e
  | .neq => some (mkNot e)
  | _ => none
/-- the fields of two structs -/
def eqFs (P : Program) (eq : TypeId → SP → SP → Option SE) (l m : List SC) : List Field → Option SE
  | [] => some .tt
  | f :: fs => match decide (f.name = "_") with
    | true => eqFs P eq l m fs
    | false => match partS P f.type l f.offset, partS P f.type m f.offset, eqFs P eq l m fs with
      | some a, some b, some r => match eq f.type a b with
        | some e => some (mkAnd e r)
        | none => none
      | _, _, _ => none
def eqT (P : Program) (pc : PC) : Nat → TypeId → SP → SP → Option SE
  | 0, _, _, _ => none
  | n + 1, t, x, y => match P.underlying t, x, y with
    | some .bool, .c (.bool a), .c (.bool b) => some (mkBeq a b)
    | some (.int _), .c (.int k a), .c (.int k' b) => match kSame k k' with
      | true => some (mkEq pc a b)
      | false => none
    | some .string, .c (.str a), .c (.str b) => some (match decide (a.data.toList = b.data.toList) with | true => .tt | false => .ff)
    | some (.struct fs), .agg l, .agg m => match P.stoodInHeld t with
      | false => eqFs P (eqT P pc n) l m fs.toList
      | true => none
    | _, _, _ => none
/-- '==' and '!=' beside those of integers -/
def eqS (P : Program) (pc : PC) (t : TypeId) (op : BinOp) (x y : SP) : Option SE := match x, y with
  | .c (.bool a), .c (.bool b) => match P.underlying t with
    | some .bool => sgnS op (mkBeq a b)
    | _ => none
  | .c (.str a), .c (.str b) => sgnS op (match decide (a.data.toList = b.data.toList) with | true => .tt | false => .ff)
  | .c (.fn _ _ _), .c .nilf => match P.underlying t with
    | some (.func _ _ _) => sgnS op .ff
    | _ => none
  | .c (.slice _ _ _ _), .c .nils | .c (.row _ _), .c .nils => match P.underlying t with
    | some (.slice _) => sgnS op .ff
    | _ => none
  | .c .nils, .c .nils => match P.underlying t with
    | some (.slice _) => sgnS op .tt
    | _ => none
  | .agg l, .agg m => match P.eqGuardType P.depth t with
    | false => match eqT P pc 6 t (.agg l) (.agg m) with
      | some e => sgnS op e
      | none => none
    | true => none
  | _, _ => none
/-- what an operation comes to: its value, the blocks, the next block's number -/
abbrev Res := Option (SV × List (Nat × Blk) × Nat)
def ptrsOf (s : St) (pc : PC) : List Operand → Option (List (Nat × Nat))
  | [] => some []
  | x :: r => match opc s pc x, ptrsOf s pc r with
    | some (.ptr b off), some l => some ((b, off) :: l)
    | _, _ => none
def partsOf (s : St) (pc : PC) : List (Nat × Operand) → Option (List (Nat × SP))
  | [] => some []
  | (i, x) :: r => match opp s pc x, partsOf s pc r with
    | some v, some l => some ((i, v) :: l)
    | _, _ => none
def placesOf (P : Program) : List Field → Option (List (Nat × Nat))
  | [] => some []
  | f :: r => match P.info? f.type, placesOf P r with
    | some i, some l => some ((f.offset, i.size) :: l)
    | _, _ => none
def repl (n : Nat) (l : List SC) : List SC := match n with
  | 0 => []
  | n + 1 => l ++ repl n l
def small : Nat := 65536
def litP (pc : PC) : SP → Option Nat
  | .c (.int _ e) => match evalE pc e with
    | some (.ofNat n) => some n
    | _ => none
  | _ => none
/-- a slice's elements: how many, their cells -/
def elemsS (P : Program) (H : List (Nat × Blk)) (e : TypeId) : SC → Option (Nat × List SC)
  | .slice b off len _ => match lk H b with
    | some k => match Nat.ble (off + len * P.cellsOf e) k.cells.length with
      | true => some (len, (k.cells.drop off).take (len * P.cellsOf e))
      | false => none
    | none => none
  | .row b len => match lk H b with
    | some k => match Nat.ble (len * P.cellsOf e) k.cells.length with
      | true => some (len, k.cells.take (len * P.cellsOf e))
      | false => none
    | none => none
  | _ => none
/-- a slice of one's own, whole: how many elements, their cells, the blocks without it -/
def ownS (P : Program) (H : List (Nat × Blk)) (e : TypeId) : SC → Option (Nat × List SC × List (Nat × Blk))
  | .nils => some (0, [], H)
  | .slice b off len cap => match lk H b with
    | some k => match Nat.beq off 0 && (Nat.beq len cap && (Nat.beq k.cells.length (len * P.cellsOf e) && (Nat.beq k.ty e && k.row.isNone))) with
      | true => some (len, k.cells, delH H b)
      | false => none
    | none => none
  | .row b len => match lk H b with
    | some k => match oSame k.row (some len) && Nat.beq k.ty e with
      | true => some (len, k.cells, delH H b)
      | false => none
    | none => none
  | _ => none
def bytesOk (P : Program) (e : TypeId) (n : Nat) : Bool := match P.info? e with
  | some i => match i.zero with
    | some z => match absP z with
      | some z => Nat.beq z.cells.length i.size && (Nat.blt 0 i.size && (Nat.ble n small && Nat.ble (n * i.bytes) 140737488355328))
      | none => false
    | none => false
  | none => false
/-- the one or the other number -/
def chooseS (pc : PC) (c a b : SE) : SE := match decT pc c with
  | some true => a
  | some false => b
  | none => mkIte c a b
def opMoveS (cx : Ctx) (s : St) (pc : PC) (x : Operand) : Res := match opv s x with
  | some (.gd c v) => match dec pc c with
    | some true => some (.p v, s.H, s.n)
    | _ => some (.gd c v, s.H, s.n)
  | some v => some (v, s.H, s.n)
  | none => none
def opPickS (cx : Ctx) (s : St) (pc : PC) (c a b : Operand) : Res := match opc s pc c with
  | some (.bool e) => match dec pc e with
    | some true => (opp s pc a).map fun v => (.p v, s.H, s.n)
    | some false => (opp s pc b).map fun v => (.p v, s.H, s.n)
    | none => match opc s (assume pc e true) a, opc s (assume pc e false) b with
      | some (.bool x), some (.bool y) => some (.p (.c (.bool (mkBite e x y))), s.H, s.n)
      | _, _ => none
  | _ => none
def opAllocS (cx : Ctx) (s : St) (pc : PC) (t : TypeId) : Res := match zeroS cx.P t with
  | some z => some (.p (.c (.ptr s.n 0)), (s.n, { cells := z.cells, ty := t }) :: s.H, s.n + 1)
  | none => none
def opBoxS (cx : Ctx) (s : St) (pc : PC) (t : TypeId) (x : Operand) : Res := match opp s pc x with
  | some z => some (.p (.c (.ptr s.n 0)), (s.n, { cells := z.cells, ty := t }) :: s.H, s.n + 1)
  | none => none
def opBuildS (cx : Ctx) (s : St) (pc : PC) (t : TypeId) (parts : Array (Nat × Operand)) : Res := match zeroS cx.P t, partsOf s pc parts.toList, cx.P.underlying t with
  | some z, some ps, some (.struct fs) => match placesOf cx.P fs.toList with
    | some pl => match fillS (fun i => pl[i]?) z.cells ps with
      | some l => some (.p (.agg l), s.H, s.n)
      | none => none
    | none => none
  | some z, some ps, some (.array _ e) => match cx.P.info? e with
    | some i => match fillS (fun j => some (j * i.size, i.size)) z.cells ps with
      | some l => some (.p (.agg l), s.H, s.n)
      | none => none
    | none => none
  | _, _, _ => none
def opBuildSliceS (cx : Ctx) (s : St) (pc : PC) (t : TypeId) (len : Nat) (parts : Array (Nat × Operand)) : Res := match cx.P.underlying t with
  | some (.slice e) => match zeroS cx.P e, partsOf s pc parts.toList with
    | some z, some ps => match Nat.beq z.cells.length (cx.P.cellsOf e) && (Nat.blt 0 (cx.P.cellsOf e) && (Nat.blt 0 len && Nat.ble (len * cx.P.cellsOf e) small)) with
      | true => match fillS (fun i => some (i * cx.P.cellsOf e, cx.P.cellsOf e)) (repl len z.cells) ps with
        | some l => some (.p (.c (.slice s.n 0 len len)), (s.n, { cells := l, ty := e }) :: s.H, s.n + 1)
        | none => none
      | false => none
    | _, _ => none
  | _ => none
def opLoadS (cx : Ctx) (s : St) (pc : PC) (t : TypeId) (a : Operand) : Res := match opc s pc a with
  | some (.ptr b off) => (loadS cx.P s.H t b off).map fun v => (.p v, s.H, s.n)
  | _ => none
def opStoreS (cx : Ctx) (s : St) (pc : PC) (t : TypeId) (a x : Operand) : Res := match opc s pc a, opp s pc x with
  | some (.ptr b off), some v => match lk s.H b with
    | some k => match Nat.beq v.cells.length (cx.P.cellsOf t) && (Nat.blt 0 v.cells.length && Nat.ble (off + v.cells.length) k.cells.length) with
      | true => some (.undef, setH s.H b { k with cells := splice k.cells off v.cells }, s.n)
      | false => none
    | none => none
  | _, _ => none
def opNilCheckS (cx : Ctx) (s : St) (pc : PC) (x : Operand) : Res := match opc s pc x with
  | some (.ptr b off) => some (.p (.c (.ptr b off)), s.H, s.n)
  | _ => none
def opBinOpS (cx : Ctx) (s : St) (pc : PC) (op : BinOp) (t : TypeId) (x y : Operand) : Res := match opp s pc x, opp s pc y with
  | some a, some b => match binS pc op a b with
    | some v => some (.p (.c v), s.H, s.n)
    | none => match eqS cx.P pc t op a b with
      | some e => some (.p (.c (.bool e)), s.H, s.n)
      | none => none
  | _, _ => none
def opUnOpS (cx : Ctx) (s : St) (pc : PC) (op : UnOp) (x : Operand) : Res := match op, opc s pc x with
  | .not, some (.bool e) => some (.p (.c (.bool (mkNot e))), s.H, s.n)
  | .neg, some (.int k e) => some (.p (.c (.int k (mkWrap pc k (mkSub (.lit 0) e)))), s.H, s.n)
  | _, _ => none
def opConvertS (cx : Ctx) (s : St) (pc : PC) (src dst : TypeId) (x : Operand) : Res := match cx.P.underlying src, cx.P.underlying dst, opc s pc x with
  | some _, some (.int k), some (.int _ e) => some (.p (.c (.int k (mkWrap pc k e))), s.H, s.n)
  | _, _, _ => none
def opMakeFuncS (cx : Ctx) (s : St) (pc : PC) (f : FuncId) (first captured : Array Operand) : Res := match ptrsOf s pc first.toList, ptrsOf s pc captured.toList with
  | some a, some b => some (.p (.c (.fn f a b)), s.H, s.n)
  | _, _ => none
def opFieldAddrS (cx : Ctx) (s : St) (pc : PC) (t : TypeId) (x : Operand) (i : Nat) : Res := match opc s pc x, cx.P.underlying t with
  | some (.ptr b off), some (.struct fs) => match fs[i]? with
    | some f => match Nat.beq (cx.P.cellsOf f.type) 0 with
      | false => some (.p (.c (.ptr b (off + f.offset))), s.H, s.n)
      | true => none
    | none => none
  | _, _ => none
def opFieldS (cx : Ctx) (s : St) (pc : PC) (t : TypeId) (x : Operand) (i : Nat) : Res := match opp s pc x, cx.P.underlying t with
  | some (.agg l), some (.struct fs) => match fs[i]? with
    | some f => (partS cx.P f.type l f.offset).map fun v => (.p v, s.H, s.n)
    | none => none
  | _, _ => none
def opIndexAddrS (cx : Ctx) (s : St) (pc : PC) (t : TypeId) (x i : Operand) : Res := match cx.P.underlying t, opc s pc x, (opp s pc i).bind (litP pc) with
  | some (.array len e), some (.ptr b off), some j => match Nat.blt j len && (cx.P.info? e).isSome with
    | true => some (.p (.c (.ptr b (off + j * cx.P.cellsOf e))), s.H, s.n)
    | false => none
  | some (.slice e), some (.slice b off len _), some j => match Nat.blt j len && (cx.P.info? e).isSome with
    | true => some (.p (.c (.ptr b (off + j * cx.P.cellsOf e))), s.H, s.n)
    | false => none
  | some (.slice e), some (.row b len), some j => match Nat.blt j len && (cx.P.info? e).isSome with
    | true => some (.p (.c (.ptr b (j * cx.P.cellsOf e))), s.H, s.n)
    | false => none
  | _, _, _ => none
def opIndexS (cx : Ctx) (s : St) (pc : PC) (t : TypeId) (x i : Operand) : Res := match cx.P.underlying t, opp s pc x, (opp s pc i).bind (litP pc) with
  | some (.array len e), some (.agg l), some j => match Nat.blt j len && (cx.P.info? e).isSome with
    | true => (partS cx.P e l (j * cx.P.cellsOf e)).map fun v => (.p v, s.H, s.n)
    | false => none
  | some .string, some (.c (.str z)), some j => match z.data.toList[j]? with
    | some b => some (.p (.c (.int .u8 (.lit b.toNat))), s.H, s.n)
    | none => none
  | _, _, _ => none
def opMakeSliceS (cx : Ctx) (s : St) (pc : PC) (t : TypeId) (l c : Operand) : Res := match cx.P.underlying t, (opp s pc l).bind (litP pc), (opp s pc c).bind (litP pc) with
  | some (.slice e), some n, some m => match Nat.beq n m && bytesOk cx.P e n, zeroS cx.P e with
    | true, some z => some (.p (.c (.slice s.n 0 n n)), (s.n, { cells := repl n z.cells, ty := e }) :: s.H, s.n + 1)
    | _, _ => none
  | _, _, _ => none
def opSliceS (cx : Ctx) (s : St) (pc : PC) (t : TypeId) (x h : Operand) : Res := match cx.P.underlying t, opc s pc x, (opp s pc h).bind (litP pc) with
  | some (.slice e), some (.row b _), some n => match lk s.H b with
    | some k => match k.row with
      | some r => match Nat.ble n r && (cx.P.info? e).isSome with
        | true => some (.p (.c (.row b n)), s.H, s.n)
        | false => none
      | none => none
    | none => none
  | some (.slice e), some .nils, some n => match Nat.beq n 0 && (cx.P.info? e).isSome with
    | true => some (.p (.c .nils), s.H, s.n)
    | false => none
  | _, _, _ => none
def opExtractS (cx : Ctx) (s : St) (pc : PC) (x : Operand) (i : Nat) : Res := match opv s x with
  | some (.tup l) => match l[i]? with
    | some v => some (.p v, s.H, s.n)
    | none => none
  | _ => none
def opCallS (cx : Ctx) (s : St) (pc : PC) (b : Builtin) (args : Array Operand) (argTypes : Array TypeId) : Res := match b, args.toList, argTypes.toList with
  | .len, [x], [t] => match cx.P.underlying t, opc s pc x with
    | some (.slice _), some (.slice _ _ len _) | some (.slice _), some (.row _ len) => some (.p (.c (.int .i64 (.lit len))), s.H, s.n)
    | some (.slice _), some .nils => some (.p (.c (.int .i64 (.lit 0))), s.H, s.n)
    | some (.slice _), some (.osl _ n) => match bnd pc (.var n) with
      | some (l, _) => match intLe 0 l with
        | true => some (.p (.c (.int .i64 (.var n))), s.H, s.n)
        | false => none
      | none => none
    | some .string, some (.str z) => some (.p (.c (.int .i64 (.lit z.size))), s.H, s.n)
    | _, _ => none
  | .append, [x, y], [t, t'] => match Nat.beq t t', cx.P.underlying t, opc s pc x, opc s pc y with
    | true, some (.slice e), some u, some v => match ownS cx.P s.H e u, elemsS cx.P s.H e v with
      | some (n, xs, H), some (m, news) => match Nat.blt 0 m && bytesOk cx.P e (n + m) with
        | true => some (.p (.c (.row s.n (n + m))), (s.n, { cells := xs ++ news, ty := e, row := some (n + m) }) :: H, s.n + 1)
        | false => none
      | _, _ => none
    | _, _, _, _ => none
  | .max, [x, y], _ => match opc s pc x, opc s pc y with
    | some (.int k a), some (.int _ b) => some (.p (.c (.int k (chooseS pc (mkLt pc a b) b a))), s.H, s.n)
    | _, _ => none
  | .min, [x, y], _ => match opc s pc x, opc s pc y with
    | some (.int k a), some (.int _ b) => some (.p (.c (.int k (chooseS pc (mkLt pc b a) b a))), s.H, s.n)
    | _, _ => none
  | _, _, _ => none
/-- an operation that calls no function of the program -/
def opS (cx : Ctx) (s : St) (pc : PC) (o : Oper) : Res := match o.op with
  | .move x | .assign x => opMoveS cx s pc x
  | .pick c a b => opPickS cx s pc c a b
  | .alloc t => opAllocS cx s pc t
  | .box t x => opBoxS cx s pc t x
  | .build t parts => opBuildS cx s pc t parts
  | .buildSlice t len parts => opBuildSliceS cx s pc t len parts
  | .load t a => opLoadS cx s pc t a
  | .store t a x => opStoreS cx s pc t a x
  | .nilCheck x => opNilCheckS cx s pc x
  | .binOp op t x y _ => opBinOpS cx s pc op t x y
  | .unOp op _ x => opUnOpS cx s pc op x
  | .convert src dst x => opConvertS cx s pc src dst x
  | .makeFunc (.func f) first captured => opMakeFuncS cx s pc f first captured
  | .fieldAddr t x i => opFieldAddrS cx s pc t x i
  | .field t x i => opFieldS cx s pc t x i
  | .indexAddr t x i => opIndexAddrS cx s pc t x i
  | .index t x i => opIndexS cx s pc t x i
  | .makeSlice t l c => opMakeSliceS cx s pc t l c
  | .slice t x none (some h) none => opSliceS cx s pc t x h
  | .extract x i => opExtractS cx s pc x i
  | .call { callee := .builtin b, args, argTypes } => opCallS cx s pc b args argTypes
  | _ => none
/-- a slot is written -/
def putS (s : St) (dst : Option Tmp) (v : SV) (H : List (Nat × Blk)) (n : Nat) : Option St := match s with
  | ⟨F, _, _, pc, nt, lp⟩ => match dst with
    | some d => match Nat.blt d nt with
      | true => some ⟨(d, v) :: F, H, n, pc, nt, lp⟩
      | false => none
    | none => some ⟨F, H, n, pc, nt, lp⟩
def St.setPc (s : St) (p : PC) : St := match s with
  | ⟨F, H, n, _, nt, lp⟩ => ⟨F, H, n, p, nt, lp⟩
/-- is an operation wanted: known; or a truth -/
def guardS (s : St) (ops : Array Oper) : Option (Nat × Bool) → Option SE
  | none => some .tt
  | some (j, want) => match (ops[j]?).bind (·.dst) with
    | some d => match lk s.F d with
      | some (.p (.c (.bool e))) => some (match want with | true => e | false => mkNot e)
      | some (.gd c (.c (.bool e))) => some (mkAnd c (match want with | true => e | false => mkNot e))
      | some .undef => some .ff
      | _ => none
    | none => none
def calleeS (s : St) (o : Oper) : Option (FuncId × List (Nat × Nat) × List (Nat × Nat) × List Operand) := match o.op with
  | .call { callee := .value f, args, .. } => match opc s s.pc f with
    | some (.fn g a b) => some (g, a, b, args.toList)
    | _ => none
  | _ => none
def yldS (s : St) (o : Oper) : Option (Nat × List Operand) := match o.op with
  | .call { callee := .value f, args, .. } => match opc s s.pc f with
    | some (.yld b) => some (b, args.toList)
    | _ => none
  | _ => none
def argsS (s : St) : List Operand → Option (List SV)
  | [] => some []
  | x :: r => match opp s s.pc x, argsS s r with
    | some v, some l => some (.p v :: l)
    | _, _ => none
def ptrSV : List (Nat × Nat) → List SV
  | [] => []
  | (b, off) :: r => .p (.c (.ptr b off)) :: ptrSV r
def slots : Nat → List SV → List (Nat × SV)
  | _, [] => []
  | i, v :: r => (i, v) :: slots (i + 1) r
/-- what a function hands back -/
def resS (P : Program) (s : St) : List ResultVar → Option (List SP)
  | [] => some []
  | .tmp t :: r => match lk s.F t, resS P s r with
    | some (.p v), some l => some (v :: l)
    | _, _ => none
  | .cell t ty :: r => match lk s.F t, resS P s r with
    | some (.p (.c (.ptr b off))), some l => match loadS P s.H ty b off with
      | some v => some (v :: l)
      | none => none
    | _, _ => none
def resV (P : Program) (fn : Func) (s : St) : Option SV := match resS P s fn.results.toList with
  | some [v] => some (.p v)
  | some l => some (.tup l)
  | none => none
/-! blocks that nothing leads to any more are forgotten at a return -/
def fsts : List (Nat × Nat) → List Nat
  | [] => []
  | (b, _) :: r => b :: fsts r
def SC.refs : SC → List Nat
  | .ptr b _ | .slice b _ _ _ | .row b _ | .yld b => [b]
  | .fn _ a c => fsts a ++ fsts c
  | _ => []
def refsL : List SC → List Nat
  | [] => []
  | x :: r => x.refs ++ refsL r
def refsP : List SP → List Nat
  | [] => []
  | x :: r => refsL x.cells ++ refsP r
def SV.refs : SV → List Nat
  | .p x | .gd _ x => refsL x.cells
  | .tup l => refsP l
  | .undef => []
def refsH (n0 : Nat) : List (Nat × Blk) → List Nat
  | [] => []
  | (b, k) :: r => match Nat.blt b n0 with
    | true => refsL k.cells ++ refsH n0 r
    | false => refsH n0 r
def newer (n0 : Nat) : List Nat → List Nat
  | [] => []
  | b :: r => match Nat.blt b n0 with
    | true => newer n0 r
    | false => b :: newer n0 r
def memN (b : Nat) : List Nat → Bool
  | [] => false
  | c :: r => match Nat.beq b c with
    | true => true
    | false => memN b r
def closeN (n0 : Nat) (H : List (Nat × Blk)) : Nat → List Nat → List Nat → List Nat
  | 0, _, seen => seen
  | _, [], seen => seen
  | m + 1, b :: work, seen => match memN b seen with
    | true => closeN n0 H m work seen
    | false => match lk H b with
      | some k => closeN n0 H m (newer n0 (refsL k.cells) ++ work) (b :: seen)
      | none => closeN n0 H m work (b :: seen)
def keepH (n0 : Nat) (seen : List Nat) : List (Nat × Blk) → List (Nat × Blk)
  | [] => []
  | (b, k) :: r => match Nat.blt b n0 || memN b seen with
    | true => (b, k) :: keepH n0 seen r
    | false => keepH n0 seen r
def gcH (n0 : Nat) (v : SV) (H : List (Nat × Blk)) : List (Nat × Blk) := keepH n0 (closeN n0 H 200 (newer n0 (v.refs ++ refsH n0 H)) []) H
/-- the end of a call of an own function: the callee's leaves become the caller's states -/
def retS (P : Program) (fn : Func) (s : St) (dst : Option Tmp) (k : St → Tree) (x : SX) (s' : St) : Tree := match x with
  | .exit _ => .fail 1
  | _ => match resV P fn s' with
    | some v => match putS { s with pc := s'.pc, lp := s'.lp } dst v (gcH s.n v s'.H) s'.n with
      | some s'' => k s''
      | none => .fail 2
    | none => .fail 3
/-- numbers that are known are named -/
def knownC (pc : PC) (x : SC) : SC := match x with
  | .int k e => match e with
    | .lit _ => x
    | e => match evalE pc e with
      | some n => .int k (.lit n)
      | none => x
  | .bool e => match decT pc e with
    | some t => .bool (litB t)
    | none => x
  | x => x
def knownL (pc : PC) : List SC → List SC
  | [] => []
  | x :: r => knownC pc x :: knownL pc r
def knownA (pc : PC) : List SV → List SV
  | [] => []
  | .p (.c x) :: r => .p (.c (knownC pc x)) :: knownA pc r
  | .p (.agg l) :: r => .p (.agg (knownL pc l)) :: knownA pc r
  | v :: r => v :: knownA pc r
/-- a contract, where one speaks -/
def sumS (cx : Ctx) (s : St) (f : FuncId) (args : List SV) : Option SV := match lk cx.sums f with
  | some g => g s.pc s.H (knownA s.pc args)
  | none => none
/-! ### a function's ends brought together -/
def mergeC (c : SE) (x y : SC) : Option SC := match x.same y with
  | true => some x
  | false => match x, y with
    | .int k a, .int k' b => match kSame k k' with
      | true => some (.int k (mkIte c a b))
      | false => none
    | .bool a, .bool b => some (.bool (mkBite c a b))
    | _, _ => none
def mergeL (c : SE) : List SC → List SC → Option (List SC)
  | [], [] => some []
  | x :: r, y :: s => match mergeC c x y, mergeL c r s with
    | some z, some l => some (z :: l)
    | _, _ => none
  | _, _ => none
def mergeP (c : SE) : SP → SP → Option SP
  | .c x, .c y => match mergeC c x y with
    | some z => some (.c z)
    | none => none
  | .agg l, .agg m => match mergeL c l m with
    | some z => some (.agg z)
    | none => none
  | _, _ => none
def mergePs (c : SE) : List SP → List SP → Option (List SP)
  | [], [] => some []
  | x :: r, y :: s => match mergeP c x y, mergePs c r s with
    | some z, some l => some (z :: l)
    | _, _ => none
  | _, _ => none
def mergeV (c : SE) : SV → SV → Option SV
  | .p x, .p y => match mergeP c x y with
    | some z => some (.p z)
    | none => none
  | .tup l, .tup m => match mergePs c l m with
    | some z => some (.tup z)
    | none => none
  | _, _ => none
def mergeB (c : SE) (k k' : Blk) : Option Blk := match Nat.beq k.ty k'.ty && oSame k.row k'.row with
  | true => match mergeL c k.cells k'.cells with
    | some l => some { cells := l, ty := k.ty, row := k.row }
    | none => none
  | false => none
def mergeH (c : SE) (H' : List (Nat × Blk)) : List (Nat × Blk) → Option (List (Nat × Blk))
  | [] => some []
  | (b, k) :: r => match lk H' b with
    | some k' => match k.same k' with
      | true => match mergeH c H' r with
        | some l => some ((b, k) :: l)
        | none => none
      | false => match mergeB c k k', mergeH c H' r with
        | some z, some l => some ((b, z) :: l)
        | _, _ => none
    | none => none
structure End where
  v : SV
  H : List (Nat × Blk)
  n : Nat
  lp : List (Nat × LS)
def mergeE (c : SE) (x y : End) : Option End := match mergeV c x.v y.v with
  | some v => match lSame lpSame x.lp y.lp with
    | true => match mergeH c y.H x.H with
      | some H => some ⟨v, H, Nat.max x.n y.n, x.lp⟩
      | none => none
    | false => none
  | none => none
def endsT (P : Program) (fn : Func) (n0 : Nat) : Tree → Option End
  | .leaf (.exit _) _ => none
  | .leaf _ s => match resV P fn s with
    | some v => some ⟨v, gcH n0 v s.H, s.n, s.lp⟩
    | none => none
  | .br c a b => match endsT P fn n0 a with
    | some x => match endsT P fn n0 b with
      | some y => mergeE c x y
      | none => none
    | none => none
  | .fail _ => none
  | .all _ _ => none
def callT (cx : Ctx) (fn : Func) (f : FuncId) (s : St) (dst : Option Tmp) (k : St → Tree) (t : Tree) : Tree := match memN f cx.mrg with
  | false => Tree.bind (retS cx.P fn s dst k) t
  | true => match t with
    | .br c a b => match endsT cx.P fn s.n (.br c a b) with
      | some e => match putS { s with lp := e.lp } dst e.v e.H e.n with
        | some s2 => k s2
        | none => .fail 22
      | none => Tree.bind (retS cx.P fn s dst k) (.br c a b)
    | t => Tree.bind (retS cx.P fn s dst k) t
def callS (cx : Ctx) (go : Code → St → Tree) (s : St) (dst : Option Tmp) (f : FuncId) (args : List SV) (k : St → Tree) : Tree := match cx.P.funcs[f]? with
  | some fn => match fn.name == "runtime.NumGoroutine" with
    | true => .fail 5
    | false => match fn.body with
      | some c => match sumS cx s f args with
        | some v => match putS s dst v s.H s.n with
          | some s' => k s'
          | none => .fail 4
        | none => match Nat.ble args.length fn.ntmps with
          | true => callT cx fn f s dst k (go c { F := slots 0 args, H := s.H, n := s.n, pc := s.pc, nt := fn.ntmps, lp := s.lp })
          | false => .fail 21
      | none => .fail (2000 + f)
  | none => .fail 6
/-! ### loops over functions -/
def setLp : List (Nat × LS) → Nat → LS → List (Nat × LS)
  | [], _, _ => []
  | (u, v) :: r, b, k => match Nat.beq b u with
    | true => (u, k) :: r
    | false => (u, v) :: setLp r b k
def putPs (nt : Nat) : List (Nat × SV) → List Nat → List SV → Option (List (Nat × SV))
  | F, [], [] => some F
  | F, p :: ps, v :: vs => match Nat.blt p nt with
    | true => putPs nt ((p, v) :: F) ps vs
    | false => none
  | _, _, _ => none
def LS.after : SX → LS
  | .normal => .ready
  | .ret => .ret
  | .exit id => .out id
def goesOn : SX → SE
  | .normal => .tt
  | _ => .ff
/-- the end of a round -/
def endS (s : St) (dst : Option Tmp) (b : Nat) (k : St → Tree) (x : SX) (s2 : St) : Tree := match putS { s with pc := s2.pc, lp := setLp s2.lp b (LS.after x) } dst (.p (.c (.bool (goesOn x)))) s2.H s2.n with
  | some s' => k s'
  | none => .fail 45
def bodyS (go : Bool → Code → St → Tree) (r : Rec) (s : St) (dst : Option Tmp) (b : Nat) (k : St → Tree) (x : SX) (s1 : St) : Tree := match x with
  | .normal => match lk s1.lp b with
    | some .ready => Tree.bind (endS s dst b k) (go true r.body { s1 with lp := setLp s1.lp b .busy })
    | _ => .fail 42
  | _ => .fail 41
def yieldS (ys : List (Nat × Rec)) (go : Bool → Code → St → Tree) (s : St) (dst : Option Tmp) (b : Nat) (args : List SV) (k : St → Tree) : Tree := match lk ys b with
  | some r => match putPs r.nt r.F r.ps args with
    | some F => Tree.bind (bodyS go r s dst b k) (go true r.assign { F := F, H := s.H, n := s.n, pc := s.pc, nt := r.nt, lp := s.lp })
    | none => .fail 43
  | none => .fail 44
def branch2 (e : SE) (p q : PC) (a b : PC → Tree) : Tree := match p.bad with
  | true => b q
  | false => match q.bad with
    | true => a p
    | false => .br e (a p) (b q)
def branch (pc : PC) (e : SE) (a b : PC → Tree) : Tree := branch2 e (assume pc e true) (assume pc e false) a b
def fork (s : St) (e : SE) (a b : St → Tree) : Tree := match decT s.pc e with
  | some true => a s
  | some false => b s
  | none => branch s.pc e (fun p => a (s.setPc p)) (fun p => b (s.setPc p))
def isCallS (o : Oper) : Bool := match o.op with
  | .call { callee := .value _, .. } => true
  | _ => false
/-- the term by which an index is told apart -/
def splitVar : SE → Option SE
  | .un (.wrap _) a => splitVar a
  | .bin .add a (.lit _) | .bin .sub a (.lit _) => splitVar a
  | .lit _ => none
  | e => some e
def intOf : Option SP → Option SE
  | some (.c (.int _ e)) => some e
  | _ => none
def splitOp (s : St) (o : Oper) : Option SE := match o.op with
  | .index _ _ i | .indexAddr _ _ i => match intOf (opp s s.pc i) with
    | some e => splitVar e
    | none => none
  | .binOp .shl _ _ y _ | .binOp .shr _ _ y _ | .slice _ _ none (some y) none => match intOf (opp s s.pc y) with
    | some e => splitVar e
    | none => none
  | _ => none
def doneS (cx : Ctx) (o : Oper) (k : St → Tree) (s : St) : Tree := match opS cx s s.pc o with
  | some (v, H, n) => match putS s o.dst v H n with
    | some s' => k s'
    | none => .fail 9
  | none => .fail 10
/-- a number is this one, or not -/
def isN (pc : PC) (e : SE) (j : Int) (t : Bool) : PC := assume (assume pc (.bin .eq e (.lit j)) t) (mkEq pc e (.lit j)) t
def chainS (cx : Ctx) (o : Oper) (k : St → Tree) (e : SE) : Nat → Int → St → Tree
  | 0, j, s => doneS cx o k (s.setPc (isN s.pc e j true))
  | m + 1, j, s => branch2 (.bin .eq e (.lit j)) (isN s.pc e j true) (isN s.pc e j false) (fun p => doneS cx o k (s.setPc p)) (fun p => chainS cx o k e m (j + 1) (s.setPc p))
/-- where a run stands still, for those who look -/
def kindN (o : Oper) : Nat := match o.op with
  | .binOp .. => 1 | .slice .. => 2 | .index .. => 3 | .indexAddr .. => 4 | .call .. => 5 | .load .. => 6 | .store .. => 7 | .convert .. => 8 | .unOp .. => 9 | .makeSlice .. => 10 | .pick .. => 11 | .build .. => 12 | .buildSlice .. => 13 | .alloc .. => 14 | .box .. => 15 | .field .. => 16 | .fieldAddr .. => 17 | .makeFunc .. => 18 | .extract .. => 19 | .nilCheck .. => 20 | _ => 21
def standS (o : Oper) : Tree := .fail (1000000 + kindN o * 10000 + o.dst.getD 0)
def splitS (cx : Ctx) (o : Oper) (k : St → Tree) (s : St) : Tree := match splitOp s o with
  | some e => match bnd s.pc e with
    | some (lo, hi) => match hi - lo with
      | .ofNat m => match Nat.ble m 64 with
        | true => chainS cx o k e m lo s
        | false => .fail 61
      | _ => .fail 62
    | none => .fail 63
  | none => standS o
def oneS (cx : Ctx) (ys : List (Nat × Rec)) (go : Bool → Code → St → Tree) (o : Oper) (k : St → Tree) (s : St) : Tree := match isCallS o with
  | true => match calleeS s o with
    | some (f, a, b, xs) => match argsS s xs with
      | some l => callS cx (go false) s o.dst f (ptrSV a ++ (l ++ ptrSV b)) k
      | none => .fail 7
    | none => match yldS s o with
      | some (b, xs) => match argsS s xs with
        | some l => yieldS ys go s o.dst b l k
        | none => .fail 7
      | none => .fail 8
  | false => match opS cx s s.pc o with
    | some (v, H, n) => match putS s o.dst v H n with
      | some s' => k s'
      | none => .fail 9
    | none => splitS cx o k s
def skipS (o : Oper) (k : St → Tree) (s : St) : Tree := match putS s o.dst .undef s.H s.n with
  | some s' => k s'
  | none => .fail 11
/-- the operations that lay blocks or write -/
def laysB (o : Oper) : Bool := match o.op with
  | .alloc .. | .box .. | .store .. | .buildSlice .. | .makeSlice .. | .call { callee := .builtin .append, .. } => true
  | _ => false
/-- an operation under a truth that is not known: on trial -/
def trialS (cx : Ctx) (e : SE) (o : Oper) (s : St) : Option St := match laysB o || isCallS o with
  | true => none
  | false => match opS cx s (assume s.pc e true) o with
    | some (.p v, _, _) => putS s o.dst (.gd e v) s.H s.n
    | _ => none
def stepS (cx : Ctx) (ys : List (Nat × Rec)) (go : Bool → Code → St → Tree) (ops : Array Oper) (o : Oper) (k : St → Tree) (s : St) : Tree := match guardS s ops o.guard with
  | none => .fail 12
  | some e => match decT s.pc e with
    | some true => oneS cx ys go o k s
    | some false => skipS o k s
    | none => match trialS cx e o s with
      | some s' => k s'
      | none => branch s.pc e (fun p => oneS cx ys go o k (s.setPc p)) (fun p => skipS o k (s.setPc p))
def opsS (cx : Ctx) (ys : List (Nat × Rec)) (go : Bool → Code → St → Tree) (ops : Array Oper) : List Oper → St → Tree
  | [], s => .leaf .normal s
  | o :: r, s => stepS cx ys go ops o (opsS cx ys go ops r) s
/-! ### regions that draw their order -/
def subF (F1 F2 : List (Nat × SV)) : List (Nat × SV) → Bool
  | [] => true
  | (t, _) :: r => (match lk F1 t, lk F2 t with
    | some u, some v => u.same v
    | _, _ => false) && subF F1 F2 r
def St.sub (s1 s2 : St) : Bool := subF s1.F s2.F s2.F && (lSame hSame s1.H s2.H && (Nat.beq s1.n s2.n && (Nat.beq s1.nt s2.nt && (subPc s1.pc s2.pc && lSame lpSame s1.lp s2.lp))))
def covers (s1 : St) : Tree → Bool
  | .leaf .normal s2 => s1.sub s2
  | .all a b => match covers s1 a with
    | true => true
    | false => covers s1 b
  | _ => false
def joinS : Tree → Tree → Tree
  | .leaf .normal s1, b => match covers s1 b with
    | true => b
    | false => .all (.leaf .normal s1) b
  | .all a1 a2, b => joinS a1 (joinS a2 b)
  | a, b => .all a b
def noCallB (o : Oper) : Bool := match o.op with
  | .call _ => false
  | _ => true
/-- an operation that reads held blocks alone and leaves the world as it is -/
def pureS (cx : Ctx) (s : St) (H0 : List (Nat × Blk)) (pc : PC) (o : Oper) : Option SV := match noCallB o && !laysB o with
  | false => none
  | true => match opS cx { s with H := H0 } pc o with
    | some (v, _, _) => some v
    | _ => none
def tryS (cx : Ctx) (H0 : List (Nat × Blk)) (ops : Array Oper) (listed : Array Bool) (s : St) (i : Nat) : Option St := match ops[i]? with
  | none => none
  | some o => match noCallB o && Region.free .any ops listed i with
    | false => none
    | true => match guardS s ops o.guard with
      | none => none
      | some e => match decT s.pc e with
        | some false => putS s o.dst .undef s.H s.n
        | some true => match pureS cx s H0 s.pc o with
          | some v => putS s o.dst v s.H s.n
          | none => none
        | none => match pureS cx s H0 (assume s.pc e true) o with
          | some (.p v) => putS s o.dst (.gd e v) s.H s.n
          | _ => none
def takeS (cx : Ctx) (H0 : List (Nat × Blk)) (ops : Array Oper) (listed : Array Bool) (s : St) : List Nat → Option (Nat × St)
  | [] => none
  | i :: r => match tryS cx H0 ops listed s i with
    | some s' => some (i, s')
    | none => takeS cx H0 ops listed s r
/-- which of the held blocks is not as it was -/
def broken : List (Nat × Blk) → List (Nat × Blk) → Option Nat
  | [], _ => none
  | (b, k) :: r, H => match lk H b with
    | some k' => match k.same k' with
      | true => broken r H
      | false => some b
    | none => some b
def heldS (H0 : List (Nat × Blk)) (k : St → Tree) (s : St) : Tree := match broken H0 s.H with
  | none => k s
  | some b => .fail (90000 + b)
def allS (t : Nat → Tree) : List Nat → Tree
  | [] => .fail 31
  | i :: r => match r with
    | [] => t i
    | r => joinS (t i) (allS t r)
def anyS (cx : Ctx) (ys : List (Nat × Rec)) (H0 : List (Nat × Blk)) (go : Bool → Code → St → Tree) (ops : Array Oper) : Nat → Array Bool → St → Tree
  | 0, listed, s => match Region.ready .any ops listed with
    | [] => .leaf .normal s
    | _ => .fail 30
  | m + 1, listed, s => match Region.ready .any ops listed with
    | [] => .leaf .normal s
    | rs => match takeS cx H0 ops listed s rs with
      | some (i, s') => anyS cx ys H0 go ops m (listed.setIfInBounds i true) s'
      | _ => allS (fun i => match ops[i]? with
        | none => .fail 32
        | some o => stepS cx ys go ops o (heldS H0 (anyS cx ys H0 go ops m (listed.setIfInBounds i true))) s) rs
/-- a held block that was written -/
def firstHeld : Tree → Option Nat
  | .leaf _ _ => none
  | .br _ a b => match firstHeld a with
    | some x => some x
    | none => firstHeld b
  | .all a b => match firstHeld a with
    | some x => some x
    | none => firstHeld b
  | .fail w => match Nat.ble 90000 w with
    | true => some (w - 90000)
    | false => none
/-- as much is held as can be -/
def holdS (t : List (Nat × Blk) → Tree) : Nat → List (Nat × Blk) → Tree
  | 0, _ => t []
  | m + 1, H0 => match firstHeld (t H0) with
    | none => t H0
    | some b => holdS t m (delH H0 b)
def loads (o : Oper) : Bool := match o.op with
  | .load .. => true
  | _ => false
/-- what is held at first: nothing, where no operation loads -/
def heldAt (ops : Array Oper) (H : List (Nat × Blk)) : List (Nat × Blk) := match ops.any loads with
  | true => H
  | false => []
def plainOps (ops : Array Oper) : Bool := ops.all fun o => match o.op with
  | .defer _ => false
  | .select .. => false
  | _ => true
def seqS (k : St → Tree) (x : SX) (s : St) : Tree := match x with
  | .normal => k s
  | x => .leaf x s
def outS (id : Nat) (x : SX) (s : St) : Tree := match x with
  | .exit j => match Nat.beq j id with
    | true => .leaf .normal s
    | false => .leaf x s
  | x => .leaf x s
def loopS (go : Code → St → Tree) (b : Code) : Nat → St → Tree
  | 0, _ => .fail 101
  | m + 1, s => (go b s).bind (seqS (loopS go b m))
/-- behind the function that was ranged over -/
def rangeEnd (P : Program) (fn : Func) (s : St) (x : SX) (s' : St) : Tree := match x with
  | .exit _ => .fail 51
  | _ => match resV P fn s' with
    | some _ => match lk s'.lp s.n with
      | some .ready => .leaf .normal { s with pc := s'.pc, lp := s'.lp, H := gcH s.n .undef s'.H, n := s'.n }
      | some .ret => .leaf .ret { s with pc := s'.pc, lp := s'.lp, H := gcH s.n .undef s'.H, n := s'.n }
      | some (.out id) => .leaf (.exit id) { s with pc := s'.pc, lp := s'.lp, H := gcH s.n .undef s'.H, n := s'.n }
      | _ => .fail 52
    | none => .fail 53
def rangeS (cx : Ctx) (ys : List (Nat × Rec)) (go : List (Nat × Rec) → Code → St → Tree) (g : Operand) (ps : Array Tmp) (assign body : Code) (s : St) : Tree := match opc s s.pc g with
  | some (.fn f a b) => match cx.P.funcs[f]? with
    | some fn => match fn.name == "runtime.NumGoroutine" with
      | true => .fail 5
      | false => match fn.body with
        | some c => match Nat.ble (ptrSV a ++ (SV.p (.c (.yld s.n)) :: ptrSV b)).length fn.ntmps with
          | true => Tree.bind (rangeEnd cx.P fn s) (go ((s.n, { F := s.F, nt := s.nt, ps := ps.toList, assign := assign, body := body }) :: ys) c
            { F := slots 0 (ptrSV a ++ (SV.p (.c (.yld s.n)) :: ptrSV b)), H := s.H, n := s.n + 1, pc := s.pc, nt := fn.ntmps, lp := (s.n, .ready) :: s.lp })
          | false => .fail 54
        | none => .fail (3000 + f)
    | none => .fail 55
  | _ => .fail 56
def run (cx : Ctx) : Nat → List (Nat × Rec) → Bool → Code → St → Tree
  | 0, _, _, _, _ => .fail 100
  | n + 1, ys, inr, c, s => match c with
    | .skip => .leaf .normal s
    | .region _ ops false => opsS cx ys (run cx n ys) ops ops.toList s
    | .region _ ops true => match plainOps ops with
      | true => holdS (fun H0 => anyS cx ys H0 (run cx n ys) ops ops.size (Array.replicate ops.size false) s) 20 (heldAt ops s.H)
      | false => .fail 102
    | .seq a b => (run cx n ys inr a s).bind (seqS (run cx n ys inr b))
    | .cond c a b => match opc s s.pc c with
      | some (.bool e) => fork s e (run cx n ys inr a) (run cx n ys inr b)
      | _ => .fail 13
    | .block id b => (run cx n ys inr b s).bind (outS id)
    | .loop b => loopS (run cx n ys inr) b n s
    | .exit id => .leaf (.exit id) s
    | .ret => .leaf .ret s
    | .scope _ => .fail 14
    | .rangeFunc g ps assign body => match inr with
      | true => .fail 15
      | false => rangeS cx ys (fun ys' => run cx n ys' false) g ps assign body s
    | _ => .fail 16
/-- a function's own run -/
inductive RTree where
  | ret (v : SV) (H : List (Nat × Blk)) | br (c : SE) (a b : RTree) | fail (why : Nat) | all (a b : RTree)
/-- a truth that is known, at the end -/
def settle (pc : PC) (v : SV) : SV := match v with
  | .p (.c (.bool e)) => match dec pc e with
    | some true => .p (.c (.bool .tt))
    | some false => .p (.c (.bool .ff))
    | none => match prove e 80 pc with
      | true => .p (.c (.bool .tt))
      | false => v
  | v => v
def Tree.rets (P : Program) (fn : Func) : Tree → RTree
  | .leaf (.exit _) _ => .fail 17
  | .leaf _ s => match resV P fn s with
    | some v => .ret (settle s.pc v) s.H
    | none => .fail 18
  | .br c a b => .br c (a.rets P fn) (b.rets P fn)
  | .fail w => .fail w
  | .all a b => .all (a.rets P fn) (b.rets P fn)
def runF (cx : Ctx) (fuel : Nat) (f : FuncId) (args : List SV) (H : List (Nat × Blk)) (n : Nat) : RTree := match cx.P.funcs[f]? with
  | some fn => match fn.body with
    | some c => match Nat.ble args.length fn.ntmps with
      | true => (run cx fuel [] false c { F := slots 0 args, H := H, n := n, pc := assumes cx.ax (PC.start cx), nt := fn.ntmps }).rets cx.P fn
      | false => .fail 21
    | none => .fail 19
  | none => .fail 20
def RTree.Holds (ρ : Env) (Q : SV → List (Nat × Blk) → Prop) : RTree → Prop
  | .ret v H => Q v H
  | .br c a b => if c.tru ρ then a.Holds ρ Q else b.Holds ρ Q
  | .fail _ => False
  | .all a b => a.Holds ρ Q ∧ b.Holds ρ Q
end
end Go.Proofs.Ytopfaapcekiojaa.Sym
