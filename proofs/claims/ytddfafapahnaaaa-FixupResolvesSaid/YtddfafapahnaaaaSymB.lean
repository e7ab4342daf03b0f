/- The symbolic executor itself: terms made smaller, what is decided, operations, code. -/
import Derived.Test.YtddfafapahnaaaaSymA
import Derived.Orders
import Derived.LoopN
namespace Go.Proofs.Ytddfafapahnaaaa.Sym
open Go Go.RowKit Go.Proofs.Ytddfafapahnaaaa

/-- a function's number and what it gives: a value out of its arguments' values, where it is known -/
abbrev Sums := List (FuncId × (List (Nat × Blk) → List SV → Option SV))
structure Ctx where
  P : Program
  bd : List (Nat × Int × Int)
  fb : List (Nat × Int × Int)
  sums : Sums

def lk {α : Type} : List (Nat × α) → Nat → Option α
  | [], _ => none
  | (u, v) :: r, t => match Nat.beq t u with
    | true => some v
    | false => lk r t
def intLe (a b : Int) : Bool := match b - a with
  | .ofNat _ => true
  | .negSucc _ => false
def rng (cx : Ctx) : SE → Option (Int × Int)
  | .lit n => some (n, n)
  | .var i => lk cx.bd i
  | .app f _ _ _ _ => lk cx.fb f
  | .un o a => match o with
    | .wrap k => match rng cx a with
      | some (l, h) => match intLe k.min l && intLe h k.max with
        | true => some (l, h)
        | false => some (k.min, k.max)
      | none => some (k.min, k.max)
    | .b2i => some (0, 1)
    | .shr n => match rng cx a with
      | some (l, h) => some (l.fdiv (2 ^ n), h.fdiv (2 ^ n))
      | none => none
    | .not => none
  | .bin o a b => match o with
    | .add => match rng cx a, rng cx b with
      | some (l, h), some (l', h') => some (l + l', h + h')
      | _, _ => none
    | .sub => match rng cx a, rng cx b with
      | some (l, h), some (l', h') => some (l - h', h - l')
      | _, _ => none
    | .mul => match rng cx a, b with
      | some (l, h), .lit m => match intLe 0 m with
        | true => some (l * m, h * m)
        | false => none
      | _, _ => none
    | .band k => match b with
      | .lit m => match intLe 0 m && intLe m k.max with
        | true => some (0, m)
        | false => some (k.min, k.max)
      | _ => some (k.min, k.max)
    | .bor k | .bxor k | .bclr k => some (k.min, k.max)
    | _ => none
  | .ite _ a b => match rng cx a, rng cx b with
    | some (l, h), some (l', h') => some (min l l', max h h')
    | _, _ => none
  | _ => none
def mkWrap (cx : Ctx) (k : IntKind) (a : SE) : SE := match a with
  | .lit n => .lit (k.wrap n)
  | a => match rng cx a with
    | some (l, h) => match intLe k.min l && intLe h k.max with
      | true => a
      | false => .un (.wrap k) a
    | none => .un (.wrap k) a
def mkUn (o : UO) (a : SE) : SE := match o, a with
  | .not, .tt => .ff
  | .not, .ff => .tt
  | .b2i, .tt => .lit 1
  | .b2i, .ff => .lit 0
  | .shr n, .lit m => .lit (m.fdiv (2 ^ n))
  | o, a => .un o a
def mkInt (o : BO) (a b : SE) : SE := match a, b with
  | .lit x, .lit y => .lit (o.int x y)
  | a, b => .bin o a b
def apart' (cx : Ctx) (a b : SE) : Bool := match rng cx a, rng cx b with
  | some (l, h), some (l', h') => !(intLe l' h && intLe l h')
  | _, _ => false
def mkAnd (a b : SE) : SE := match a with
  | .tt => b
  | .ff => .ff
  | a => match b with
    | .tt => a
    | .ff => .ff
    | b => .bin .and a b
def mkOr (a b : SE) : SE := match a with
  | .tt => .tt
  | .ff => b
  | a => match b with
    | .tt => .tt
    | .ff => a
    | b => .bin .or a b
def mkBite (c a b : SE) : SE := match a, b with
  | .tt, b => mkOr c b
  | a, .ff => mkAnd c a
  | .ff, b => mkAnd (mkUn .not c) b
  | a, .tt => mkOr (mkUn .not c) a
  | a, b => .bite c a b
/-- a choice of known numbers beside a known number -/
def eqLit (a : SE) (z : Int) : Option SE := match a with
  | .lit x => match intSame x z with
    | true => some .tt
    | false => some .ff
  | .ite c a b => match eqLit a z, eqLit b z with
    | some x, some y => some (mkBite c x y)
    | _, _ => none
  | _ => none
def mkEq (cx : Ctx) (a b : SE) : SE := match a, b with
  | .lit x, .lit y => match intSame x y with
    | true => .tt
    | false => .ff
  | a, b => match a.same b with
    | true => .tt
    | false => match apart' cx a b with
      | true => .ff
      | false => match b with
        | .lit z => match eqLit a z with
          | some e => e
          | none => .bin .eq a (.lit z)
        | b => .bin .eq a b
def mkLt (cx : Ctx) (a b : SE) : SE := match rng cx a, rng cx b with
  | some (l, h), some (l', h') => match intLe (h + 1) l' with
    | true => .tt
    | false => match intLe h' l with
      | true => .ff
      | false => .bin .lt a b
  | _, _ => .bin .lt a b
def mkLe (cx : Ctx) (a b : SE) : SE := match rng cx a, rng cx b with
  | some (l, h), some (l', h') => match intLe h l' with
    | true => .tt
    | false => match intLe (h' + 1) l with
      | true => .ff
      | false => .bin .le a b
  | _, _ => .bin .le a b
def mkBeq (a b : SE) : SE := match a, b with
  | .tt, b => b
  | a, .tt => a
  | .ff, b => mkUn .not b
  | a, .ff => mkUn .not a
  | a, b => .bin .beq a b

def findPc : List (SE × Bool) → SE → Option Bool
  | [], _ => none
  | (x, b) :: r, e => match x.same e with
    | true => some b
    | false => findPc r e
/-- what is known of a sameness -/
def eqKnown (pc : List (SE × Bool)) (a b : SE) : Option Bool := match a.same b with
  | true => some true
  | false => match a, b with
    | .lit x, .lit y => some (intSame x y)
    | a, b => findPc pc (.bin .eq a b)
def transE (pc : List (SE × Bool)) (a b : SE) : List (SE × Bool) → Option Bool
  | [] => none
  | (e, t) :: r => match e, t with
    | .bin .eq x y, true => match x.same a with
      | true => match eqKnown pc y b with
        | some v => some v
        | none => transE pc a b r
      | false => match y.same a with
        | true => match eqKnown pc x b with
          | some v => some v
          | none => transE pc a b r
        | false => transE pc a b r
    | _, _ => transE pc a b r
/-- what is known of a truth -/
def dec (pc : List (SE × Bool)) : SE → Option Bool
  | .tt => some true
  | .ff => some false
  | .un o a => match o with
    | .not => match dec pc a with
      | some b => some !b
      | none => none
    | _ => none
  | .bin o a b => match o with
    | .and => match dec pc a with
      | some false => some false
      | some true => dec pc b
      | none => match dec pc b with
        | some false => some false
        | _ => findPc pc (.bin o a b)
    | .or => match dec pc a with
      | some true => some true
      | some false => dec pc b
      | none => match dec pc b with
        | some true => some true
        | _ => findPc pc (.bin o a b)
    | .eq => match findPc pc (.bin o a b) with
      | some t => some t
      | none => transE pc a b pc
    | _ => findPc pc (.bin o a b)
  | e => findPc pc e
def assume0 (pc : List (SE × Bool)) : SE → Bool → List (SE × Bool)
  | .un o a, t => match o with
    | .not => assume0 pc a !t
    | _ => (.un o a, t) :: pc
  | .bin o a b, t => match o, t with
    | .and, true => assume0 (assume0 pc a true) b true
    | .or, false => assume0 (assume0 pc a false) b false
    | _, _ => (.bin o a b, t) :: pc
  | e, t => (e, t) :: pc

/-- what follows from what is known already -/
def derived (full : List (SE × Bool)) : List (SE × Bool) → List (SE × Bool) → List (SE × Bool)
  | [], acc => acc
  | (e, t) :: r, acc => match e, t with
    | .bin .and a b, false => match dec full a, dec full b with
      | some true, none => derived full r (assume0 acc b false)
      | none, some true => derived full r (assume0 acc a false)
      | _, _ => derived full r acc
    | .bin .or a b, true => match dec full a, dec full b with
      | some false, none => derived full r (assume0 acc b true)
      | none, some false => derived full r (assume0 acc a true)
      | _, _ => derived full r acc
    | _, _ => derived full r acc
def more (pc : List (SE × Bool)) : List (SE × Bool) := derived pc pc pc
def assume (pc : List (SE × Bool)) (e : SE) (t : Bool) : List (SE × Bool) := more (more (assume0 pc e t))

/-- what is known cannot be -/
def bad (pc : List (SE × Bool)) : List (SE × Bool) → Bool
  | [] => false
  | (e, t) :: r => match dec pc e, t with
    | some true, false => true
    | some false, true => true
    | _, _ => bad pc r
def absC : Value → Option SC
  | .bool b => some (.bool (match b with | true => .tt | false => .ff))
  | .int k n => some (.int k (.lit n))
  | .string s => some (.str s)
  | .pointer none => some .nilp
  | .slice none 0 0 => some .nils
  | .nilFunc => some .nilf
  | _ => none
def absL : List Value → Option (List SC)
  | [] => some []
  | v :: r => match absC v, absL r with
    | some x, some l => some (x :: l)
    | _, _ => none
def absP (v : Value) : Option SP := match v with
  | .agg cs => (absL cs.toList).map .agg
  | v => (absC v).map .c
def opv (s : St) : Operand → Option SV
  | .tmp t => lk s.F t
  | .const v => (absP v).map .p
  | .func f => some (.p (.c (.fn f [] [])))
  | .global _ => none
def strip (pc : List (SE × Bool)) : SV → Option SP
  | .p x => some x
  | .gd c x => match dec pc c with
    | some true => some x
    | _ => none
  | _ => none
def opp (s : St) (pc : List (SE × Bool)) (x : Operand) : Option SP := match opv s x with
  | some v => strip pc v
  | none => none
def opc (s : St) (pc : List (SE × Bool)) (x : Operand) : Option SC := match opp s pc x with
  | some (.c x) => some x
  | _ => none
def SP.cells : SP → List SC
  | .c x => [x]
  | .agg l => l
def splice (l : List SC) (off : Nat) (x : List SC) : List SC := l.take off ++ x ++ l.drop (off + x.length)
def fillS (place : Nat → Option (Nat × Nat)) (cells : List SC) : List (Nat × SP) → Option (List SC)
  | [] => some cells
  | (i, v) :: rest => match place i with
    | none => none
    | some (off, size) => match Nat.beq v.cells.length size && Nat.ble (off + v.cells.length) cells.length with
      | true => fillS place (splice cells off v.cells) rest
      | false => none
def isAggT (P : Program) (t : TypeId) : Option Bool := match P.underlying t with
  | some (.struct _) | some (.array _ _) => some true
  | some _ => some false
  | none => none
def zeroS (P : Program) (t : TypeId) : Option SP := match P.info? t with
  | some i => match i.zero with
    | some v => absP v
    | none => none
  | none => none
def setH : List (Nat × Blk) → Nat → Blk → List (Nat × Blk)
  | [], _, _ => []
  | (u, v) :: r, b, k => match Nat.beq b u with
    | true => (u, k) :: r
    | false => (u, v) :: setH r b k
def delH : List (Nat × Blk) → Nat → List (Nat × Blk)
  | [], _ => []
  | (u, v) :: r, b => match Nat.beq b u with
    | true => delH r b
    | false => (u, v) :: delH r b
def loadS (P : Program) (H : List (Nat × Blk)) (t : TypeId) (b off : Nat) : Option SP := match lk H b, isAggT P t with
  | some k, some true => match Nat.ble (off + P.cellsOf t) k.cells.length with
    | true => some (.agg ((k.cells.drop off).take (P.cellsOf t)))
    | false => none
  | some k, some false => (k.cells[off]?).map .c
  | _, _ => none
def partS (P : Program) (t : TypeId) (l : List SC) (off : Nat) : Option SP := match isAggT P t with
  | some true => match Nat.ble (off + P.cellsOf t) l.length with
    | true => some (.agg ((l.drop off).take (P.cellsOf t)))
    | false => none
  | some false => (l[off]?).map .c
  | none => none
def binS (cx : Ctx) (op : BinOp) (x y : SP) : Option SC := match x, y with
  | .c (.int k a), .c (.int k' b) => match op with
    | .shl => match b with
      | .lit m => match intLe 0 m with
        | true => some (.int k (mkWrap cx k (mkInt .mul a (.lit (2 ^ (min m.toNat k.bits))))))
        | false => none
      | _ => none
    | .shr => match b with
      | .lit m => match intLe 0 m with
        | true => some (.int k (mkUn (.shr (min m.toNat k.bits)) a))
        | false => none
      | _ => none
    | op => match kSame k k' with
      | false => none
      | true => match op with
        | .add => some (.int k (mkWrap cx k (mkInt .add a b)))
        | .sub => some (.int k (mkWrap cx k (mkInt .sub a b)))
        | .mul => some (.int k (mkWrap cx k (mkInt .mul a b)))
        | .quo => match b with
          | .lit m => match intSame m 0 with
            | true => none
            | false => some (.int k (mkWrap cx k (mkInt .quo a b)))
          | _ => none
        | .rem => match b with
          | .lit m => match intSame m 0 with
            | true => none
            | false => some (.int k (mkInt .rem a b))
          | _ => none
        | .and => some (.int k (mkInt (.band k) a b))
        | .or => some (.int k (mkInt (.bor k) a b))
        | .xor => some (.int k (mkInt (.bxor k) a b))
        | .andNot => some (.int k (mkInt (.bclr k) a b))
        | .eql => some (.bool (mkEq cx a b))
        | .neq => some (.bool (mkUn .not (mkEq cx a b)))
        | .lss => some (.bool (mkLt cx a b))
        | .leq => some (.bool (mkLe cx a b))
        | .gtr => some (.bool (mkLt cx b a))
        | .geq => some (.bool (mkLe cx b a))
        | _ => none
  | _, _ => none
def sgnS (op : BinOp) (e : SE) : Option SE := match op with
  | .eql => some e
  | .neq => some (mkUn .not e)
  | _ => none
/-- the fields of two structs -/
def eqFs (P : Program) (eq : TypeId → SP → SP → Option SE) (l m : List SC) : List Field → Option SE
  | [] => some .tt
  | f :: fs => match decide (f.name = "_") with
    | true => eqFs P eq l m fs
    | false => match partS P f.type l f.offset, partS P f.type m f.offset, eqFs P eq l m fs with
      | some a, some b, some r => match eq f.type a b with
        | some e => some (mkAnd e r)
        | none => none
      | _, _, _ => none
def eqT (cx : Ctx) : Nat → TypeId → SP → SP → Option SE
  | 0, _, _, _ => none
  | n + 1, t, x, y => match cx.P.underlying t, x, y with
    | some .bool, .c (.bool a), .c (.bool b) => some (mkBeq a b)
    | some (.int _), .c (.int k a), .c (.int k' b) => match kSame k k' with
      | true => some (mkEq cx a b)
      | false => none
    | some .string, .c (.str a), .c (.str b) => some (match decide (a.data.toList = b.data.toList) with | true => .tt | false => .ff)
    | some (.struct fs), .agg l, .agg m => match cx.P.stoodInHeld t with
      | false => eqFs cx.P (eqT cx n) l m fs.toList
      | true => none
    | _, _, _ => none
/-- '==' and '!=' beside those of integers -/
def eqS (cx : Ctx) (t : TypeId) (op : BinOp) (x y : SP) : Option SE := match x, y with
  | .c (.bool a), .c (.bool b) => match cx.P.underlying t with
    | some .bool => sgnS op (mkBeq a b)
    | _ => none
  | .c (.str a), .c (.str b) => sgnS op (match decide (a.data.toList = b.data.toList) with | true => .tt | false => .ff)
  | .c (.fn _ _ _), .c .nilf => match cx.P.underlying t with
    | some (.func _ _ _) => sgnS op .ff
    | _ => none
  | .agg l, .agg m => match cx.P.eqGuardType cx.P.depth t with
    | false => match eqT cx 6 t (.agg l) (.agg m) with
      | some e => sgnS op e
      | none => none
    | true => none
  | _, _ => none
/-- what an operation comes to: its value, the blocks, the next block's number -/
abbrev Res := Option (SV × List (Nat × Blk) × Nat)
def litN : SP → Option Nat
  | .c (.int _ (.lit (.ofNat n))) => some n
  | _ => none
def ptrsOf (s : St) (pc : List (SE × Bool)) : List Operand → Option (List (Nat × Nat))
  | [] => some []
  | x :: r => match opc s pc x, ptrsOf s pc r with
    | some (.ptr b off), some l => some ((b, off) :: l)
    | _, _ => none
def partsOf (s : St) (pc : List (SE × Bool)) : List (Nat × Operand) → Option (List (Nat × SP))
  | [] => some []
  | (i, x) :: r => match opp s pc x, partsOf s pc r with
    | some v, some l => some ((i, v) :: l)
    | _, _ => none
def placesOf (P : Program) : List Field → Option (List (Nat × Nat))
  | [] => some []
  | f :: r => match P.info? f.type, placesOf P r with
    | some i, some l => some ((f.offset, i.size) :: l)
    | _, _ => none
def repl (n : Nat) (l : List SC) : List SC := match n with
  | 0 => []
  | n + 1 => l ++ repl n l
def small : Nat := 65536
/-- an operation that calls no function of the program -/
def opS (cx : Ctx) (s : St) (pc : List (SE × Bool)) (o : Oper) : Res := match o.op with
  | .move x | .assign x => match opv s x with
    | some (.gd c v) => match dec pc c with
      | some true => some (.p v, s.H, s.n)
      | _ => some (.gd c v, s.H, s.n)
    | some v => some (v, s.H, s.n)
    | none => none
  | .pick c a b => match opc s pc c with
    | some (.bool e) => match dec pc e with
      | some true => (opp s pc a).map fun v => (.p v, s.H, s.n)
      | some false => (opp s pc b).map fun v => (.p v, s.H, s.n)
      | none => match opc s (assume pc e true) a, opc s (assume pc e false) b with
        | some (.bool x), some (.bool y) => some (.p (.c (.bool (mkBite e x y))), s.H, s.n)
        | _, _ => none
    | _ => none
  | .alloc t => match zeroS cx.P t with
    | some z => some (.p (.c (.ptr s.n 0)), (s.n, { cells := z.cells, ty := t }) :: s.H, s.n + 1)
    | none => none
  | .box t x => match opp s pc x with
    | some z => some (.p (.c (.ptr s.n 0)), (s.n, { cells := z.cells, ty := t }) :: s.H, s.n + 1)
    | none => none
  | .build t parts => match zeroS cx.P t, partsOf s pc parts.toList, cx.P.underlying t with
    | some z, some ps, some (.struct fs) => match placesOf cx.P fs.toList with
      | some pl => match fillS (fun i => pl[i]?) z.cells ps with
        | some l => some (.p (.agg l), s.H, s.n)
        | none => none
      | none => none
    | some z, some ps, some (.array _ e) => match cx.P.info? e with
      | some i => match fillS (fun j => some (j * i.size, i.size)) z.cells ps with
        | some l => some (.p (.agg l), s.H, s.n)
        | none => none
      | none => none
    | _, _, _ => none
  | .buildSlice t len parts => match cx.P.underlying t with
    | some (.slice e) => match zeroS cx.P e, partsOf s pc parts.toList with
      | some z, some ps => match Nat.beq z.cells.length (cx.P.cellsOf e) && (Nat.blt 0 (cx.P.cellsOf e) && (Nat.blt 0 len && Nat.ble (len * cx.P.cellsOf e) small)) with
        | true => match fillS (fun i => some (i * cx.P.cellsOf e, cx.P.cellsOf e)) (repl len z.cells) ps with
          | some l => some (.p (.c (.slice s.n 0 len len)), (s.n, { cells := l, ty := e }) :: s.H, s.n + 1)
          | none => none
        | false => none
      | _, _ => none
    | _ => none
  | .load t a => match opc s pc a with
    | some (.ptr b off) => (loadS cx.P s.H t b off).map fun v => (.p v, s.H, s.n)
    | _ => none
  | .store t a x => match opc s pc a, opp s pc x with
    | some (.ptr b off), some v => match lk s.H b with
      | some k => match Nat.beq v.cells.length (cx.P.cellsOf t) && (Nat.blt 0 v.cells.length && Nat.ble (off + v.cells.length) k.cells.length) with
        | true => some (.undef, setH s.H b { k with cells := splice k.cells off v.cells }, s.n)
        | false => none
      | none => none
    | _, _ => none
  | .nilCheck x => match opc s pc x with
    | some (.ptr b off) => some (.p (.c (.ptr b off)), s.H, s.n)
    | _ => none
  | .binOp op t x y _ => match opp s pc x, opp s pc y with
    | some a, some b => match binS cx op a b with
      | some v => some (.p (.c v), s.H, s.n)
      | none => match eqS cx t op a b with
        | some e => some (.p (.c (.bool e)), s.H, s.n)
        | none => none
    | _, _ => none
  | .unOp op _ x => match op, opc s pc x with
    | .not, some (.bool e) => some (.p (.c (.bool (mkUn .not e))), s.H, s.n)
    | .neg, some (.int k e) => some (.p (.c (.int k (mkWrap cx k (mkInt .sub (.lit 0) e)))), s.H, s.n)
    | _, _ => none
  | .convert src dst x => match cx.P.underlying src, cx.P.underlying dst, opc s pc x with
    | some _, some (.int k), some (.int _ e) => some (.p (.c (.int k (mkWrap cx k e))), s.H, s.n)
    | _, _, _ => none
  | .makeFunc (.func f) first captured => match ptrsOf s pc first.toList, ptrsOf s pc captured.toList with
    | some a, some b => some (.p (.c (.fn f a b)), s.H, s.n)
    | _, _ => none
  | .fieldAddr t x i => match opc s pc x, cx.P.underlying t with
    | some (.ptr b off), some (.struct fs) => match fs[i]? with
      | some f => match Nat.beq (cx.P.cellsOf f.type) 0 with
        | false => some (.p (.c (.ptr b (off + f.offset))), s.H, s.n)
        | true => none
      | none => none
    | _, _ => none
  | .field t x i => match opp s pc x, cx.P.underlying t with
    | some (.agg l), some (.struct fs) => match fs[i]? with
      | some f => (partS cx.P f.type l f.offset).map fun v => (.p v, s.H, s.n)
      | none => none
    | _, _ => none
  | .indexAddr t x i => match cx.P.underlying t, opc s pc x, (opp s pc i).bind litN with
    | some (.array len e), some (.ptr b off), some j => match Nat.blt j len && (cx.P.info? e).isSome with
      | true => some (.p (.c (.ptr b (off + j * cx.P.cellsOf e))), s.H, s.n)
      | false => none
    | some (.slice e), some (.slice b off len _), some j => match Nat.blt j len && (cx.P.info? e).isSome with
      | true => some (.p (.c (.ptr b (off + j * cx.P.cellsOf e))), s.H, s.n)
      | false => none
    | some (.slice e), some (.row b len), some j => match Nat.blt j len && (cx.P.info? e).isSome with
      | true => some (.p (.c (.ptr b (j * cx.P.cellsOf e))), s.H, s.n)
      | false => none
    | _, _, _ => none
  | .index t x i => match cx.P.underlying t, opp s pc x, (opp s pc i).bind litN with
    | some (.array len e), some (.agg l), some j => match Nat.blt j len && (cx.P.info? e).isSome with
      | true => (partS cx.P e l (j * cx.P.cellsOf e)).map fun v => (.p v, s.H, s.n)
      | false => none
    | some .string, some (.c (.str z)), some j => match z.data.toList[j]? with
      | some b => some (.p (.c (.int .u8 (.lit b.toNat))), s.H, s.n)
      | none => none
    | _, _, _ => none
  | .extract x i => match opv s x with
    | some (.tup l) => match l[i]? with
      | some v => some (.p v, s.H, s.n)
      | none => none
    | _ => none
  | .call { callee := .builtin b, args, argTypes } => match b, args.toList, argTypes.toList with
    | .len, [x], [t] => match cx.P.underlying t, opc s pc x with
      | some (.slice _), some (.slice _ _ len _) | some (.slice _), some (.row _ len) => some (.p (.c (.int .i64 (.lit len))), s.H, s.n)
      | some (.slice _), some .nils => some (.p (.c (.int .i64 (.lit 0))), s.H, s.n)
      | some (.slice _), some (.osl _ n) => match rng cx (.var n) with
        | some (l, _) => match intLe 0 l with
          | true => some (.p (.c (.int .i64 (.var n))), s.H, s.n)
          | false => none
        | none => none
      | some .string, some (.str z) => some (.p (.c (.int .i64 (.lit z.size))), s.H, s.n)
      | _, _ => none
    | .max, [x, y], _ => match opc s pc x, opc s pc y with
      | some (.int k (.lit a)), some (.int _ (.lit b)) => some (.p (.c (.int k (.lit (if b > a then b else a)))), s.H, s.n)
      | _, _ => none
    | .min, [x, y], _ => match opc s pc x, opc s pc y with
      | some (.int k (.lit a)), some (.int _ (.lit b)) => some (.p (.c (.int k (.lit (if b < a then b else a)))), s.H, s.n)
      | _, _ => none
    | _, _, _ => none
  | _ => none
/-- a slot is written -/
def putS (s : St) (dst : Option Tmp) (v : SV) (H : List (Nat × Blk)) (n : Nat) : Option St := match dst with
  | some d => match Nat.blt d s.nt with
    | true => some { s with F := (d, v) :: s.F, H := H, n := n }
    | false => none
  | none => some { s with H := H, n := n }
/-- is an operation wanted: known; or a truth -/
def guardS (s : St) (ops : Array Oper) : Option (Nat × Bool) → Option SE
  | none => some .tt
  | some (j, want) => match (ops[j]?).bind (·.dst) with
    | some d => match lk s.F d with
      | some (.p (.c (.bool e))) => some (match want with | true => e | false => mkUn .not e)
      | some (.gd c (.c (.bool e))) => some (mkAnd c (match want with | true => e | false => mkUn .not e))
      | some .undef => some .ff
      | _ => none
    | none => none
def calleeS (s : St) (o : Oper) : Option (FuncId × List (Nat × Nat) × List (Nat × Nat) × List Operand) := match o.op with
  | .call { callee := .value f, args, .. } => match opc s s.pc f with
    | some (.fn g a b) => some (g, a, b, args.toList)
    | _ => none
  | _ => none
def argsS (s : St) : List Operand → Option (List SV)
  | [] => some []
  | x :: r => match opp s s.pc x, argsS s r with
    | some v, some l => some (.p v :: l)
    | _, _ => none
def ptrSV : List (Nat × Nat) → List SV
  | [] => []
  | (b, off) :: r => .p (.c (.ptr b off)) :: ptrSV r
def slots : Nat → List SV → List (Nat × SV)
  | _, [] => []
  | i, v :: r => (i, v) :: slots (i + 1) r
/-- what a function hands back -/
def resS (P : Program) (s : St) : List ResultVar → Option (List SP)
  | [] => some []
  | .tmp t :: r => match lk s.F t, resS P s r with
    | some (.p v), some l => some (v :: l)
    | _, _ => none
  | .cell t ty :: r => match lk s.F t, resS P s r with
    | some (.p (.c (.ptr b off))), some l => match loadS P s.H ty b off with
      | some v => some (v :: l)
      | none => none
    | _, _ => none
def resV (P : Program) (fn : Func) (s : St) : Option SV := match resS P s fn.results.toList with
  | some [v] => some (.p v)
  | some l => some (.tup l)
  | none => none
/-! blocks that nothing leads to any more are forgotten at a return -/
def fsts : List (Nat × Nat) → List Nat
  | [] => []
  | (b, _) :: r => b :: fsts r
def SC.refs : SC → List Nat
  | .ptr b _ | .slice b _ _ _ | .row b _ => [b]
  | .fn _ a c => fsts a ++ fsts c
  | _ => []
def refsL : List SC → List Nat
  | [] => []
  | x :: r => x.refs ++ refsL r
def refsP : List SP → List Nat
  | [] => []
  | x :: r => refsL x.cells ++ refsP r
def SV.refs : SV → List Nat
  | .p x | .gd _ x => refsL x.cells
  | .tup l => refsP l
  | .undef => []
def refsH (n0 : Nat) : List (Nat × Blk) → List Nat
  | [] => []
  | (b, k) :: r => match Nat.blt b n0 with
    | true => refsL k.cells ++ refsH n0 r
    | false => refsH n0 r
def newer (n0 : Nat) : List Nat → List Nat
  | [] => []
  | b :: r => match Nat.blt b n0 with
    | true => newer n0 r
    | false => b :: newer n0 r
def memN (b : Nat) : List Nat → Bool
  | [] => false
  | c :: r => match Nat.beq b c with
    | true => true
    | false => memN b r
def closeN (n0 : Nat) (H : List (Nat × Blk)) : Nat → List Nat → List Nat → List Nat
  | 0, _, seen => seen
  | _, [], seen => seen
  | m + 1, b :: work, seen => match memN b seen with
    | true => closeN n0 H m work seen
    | false => match lk H b with
      | some k => closeN n0 H m (newer n0 (refsL k.cells) ++ work) (b :: seen)
      | none => closeN n0 H m work (b :: seen)
def keepH (n0 : Nat) (seen : List Nat) : List (Nat × Blk) → List (Nat × Blk)
  | [] => []
  | (b, k) :: r => match Nat.blt b n0 || memN b seen with
    | true => (b, k) :: keepH n0 seen r
    | false => keepH n0 seen r
def gcH (n0 : Nat) (v : SV) (H : List (Nat × Blk)) : List (Nat × Blk) := keepH n0 (closeN n0 H 200 (newer n0 (v.refs ++ refsH n0 H)) []) H
/-- the end of a call of an own function: the callee's leaves become the caller's states -/
def retS (P : Program) (fn : Func) (s : St) (dst : Option Tmp) (k : St → Tree) (x : SX) (s' : St) : Tree := match x with
  | .exit _ => .fail 1
  | _ => match resV P fn s' with
    | some v => match putS { s with pc := s'.pc } dst v (gcH s.n v s'.H) s'.n with
      | some s'' => k s''
      | none => .fail 2
    | none => .fail 3
def callS (cx : Ctx) (go : Code → St → Tree) (s : St) (dst : Option Tmp) (f : FuncId) (args : List SV) (k : St → Tree) : Tree := match cx.P.funcs[f]? with
  | some fn => match fn.name == "runtime.NumGoroutine" with
    | true => .fail 5
    | false => match fn.body with
      | some c => match lk cx.sums f with
        | some g => match g s.H args with
          | some v => match putS s dst v s.H s.n with
            | some s' => k s'
            | none => .fail 4
          | none => .fail (1000 + f)
        | none => match Nat.ble args.length fn.ntmps with
          | true => Tree.bind (retS cx.P fn s dst k) (go c { F := slots 0 args, H := s.H, n := s.n, pc := s.pc, nt := fn.ntmps })
          | false => .fail 21
      | none => .fail (2000 + f)
  | none => .fail 6
def branch (pc : List (SE × Bool)) (e : SE) (a b : List (SE × Bool) → Tree) : Tree := match bad (assume pc e true) (assume pc e true) with
  | true => b (assume pc e false)
  | false => match bad (assume pc e false) (assume pc e false) with
    | true => a (assume pc e true)
    | false => .br e (a (assume pc e true)) (b (assume pc e false))
def fork (s : St) (e : SE) (a b : St → Tree) : Tree := match dec s.pc e with
  | some true => a s
  | some false => b s
  | none => branch s.pc e (fun p => a { s with pc := p }) (fun p => b { s with pc := p })
def isCallS (o : Oper) : Bool := match o.op with
  | .call { callee := .value _, .. } => true
  | _ => false
def oneS (cx : Ctx) (go : Code → St → Tree) (o : Oper) (k : St → Tree) (s : St) : Tree := match isCallS o with
  | true => match calleeS s o with
    | some (f, a, b, xs) => match argsS s xs with
      | some l => callS cx go s o.dst f (ptrSV a ++ (l ++ ptrSV b)) k
      | none => .fail 7
    | none => .fail 8
  | false => match opS cx s s.pc o with
    | some (v, H, n) => match putS s o.dst v H n with
      | some s' => k s'
      | none => .fail 9
    | none => .fail 10
def skipS (o : Oper) (k : St → Tree) (s : St) : Tree := match putS s o.dst .undef s.H s.n with
  | some s' => k s'
  | none => .fail 11
/-- an operation under a truth that is not known: on trial -/
def trialS (cx : Ctx) (e : SE) (o : Oper) (s : St) : Option St := match o.op with
  | .store .. | .alloc .. | .box .. | .buildSlice .. => none
  | _ => match isCallS o with
    | true => none
    | false => match opS cx s (assume s.pc e true) o with
      | some (.p v, _, _) => putS s o.dst (.gd e v) s.H s.n
      | _ => none
def stepS (cx : Ctx) (go : Code → St → Tree) (ops : Array Oper) (o : Oper) (k : St → Tree) (s : St) : Tree := match guardS s ops o.guard with
  | none => .fail 12
  | some e => match dec s.pc e with
    | some true => oneS cx go o k s
    | some false => skipS o k s
    | none => match trialS cx e o s with
      | some s' => k s'
      | none => branch s.pc e (fun p => oneS cx go o k { s with pc := p }) (fun p => skipS o k { s with pc := p })
def opsS (cx : Ctx) (go : Code → St → Tree) (ops : Array Oper) : List Oper → St → Tree
  | [], s => .leaf .normal s
  | o :: r, s => stepS cx go ops o (opsS cx go ops r) s
/-! ### regions that draw their order -/
def subF (F1 F2 : List (Nat × SV)) : List (Nat × SV) → Bool
  | [] => true
  | (t, _) :: r => (match lk F1 t, lk F2 t with
    | some u, some v => u.same v
    | _, _ => false) && subF F1 F2 r
def subPc (p1 : List (SE × Bool)) : List (SE × Bool) → Bool
  | [] => true
  | (e, b) :: r => (match findPc p1 e with
    | some true => b
    | some false => !b
    | none => false) && subPc p1 r
def St.sub (s1 s2 : St) : Bool := subF s1.F s2.F s2.F && (lSame hSame s1.H s2.H && (Nat.beq s1.n s2.n && (Nat.beq s1.nt s2.nt && subPc s1.pc s2.pc)))
def covers (s1 : St) : Tree → Bool
  | .leaf .normal s2 => s1.sub s2
  | .all a b => match covers s1 a with
    | true => true
    | false => covers s1 b
  | _ => false
def joinS : Tree → Tree → Tree
  | .leaf .normal s1, b => match covers s1 b with
    | true => b
    | false => .all (.leaf .normal s1) b
  | .all a1 a2, b => joinS a1 (joinS a2 b)
  | a, b => .all a b
/-- an operation that asks nothing of the world and leaves it as it is -/
def pureS (cx : Ctx) (s : St) (pc : List (SE × Bool)) (o : Oper) : Option SV := match o.op with
  | .call _ => none
  | .store .. | .alloc .. | .box .. | .buildSlice .. => none
  | _ => match opS cx { s with H := [] } pc o with
    | some (v, _, _) => some v
    | _ => none
def tryS (cx : Ctx) (ops : Array Oper) (listed : Array Bool) (s : St) (i : Nat) : Option St := match ops[i]? with
  | none => none
  | some o => match Region.free .any ops listed i with
    | false => none
    | true => match guardS s ops o.guard with
      | none => none
      | some e => match dec s.pc e with
        | some false => putS s o.dst .undef s.H s.n
        | some true => match pureS cx s s.pc o with
          | some v => putS s o.dst v s.H s.n
          | none => none
        | none => match pureS cx s (assume s.pc e true) o with
          | some (.p v) => putS s o.dst (.gd e v) s.H s.n
          | _ => none
def takeS (cx : Ctx) (ops : Array Oper) (listed : Array Bool) (s : St) : List Nat → Option (Nat × St)
  | [] => none
  | i :: r => match tryS cx ops listed s i with
    | some s' => some (i, s')
    | none => takeS cx ops listed s r
def allS (t : Nat → Tree) : List Nat → Tree
  | [] => .fail 31
  | i :: r => match r with
    | [] => t i
    | r => joinS (t i) (allS t r)
def anyS (cx : Ctx) (go : Code → St → Tree) (ops : Array Oper) : Nat → Array Bool → St → Tree
  | 0, listed, s => match Region.ready .any ops listed with
    | [] => .leaf .normal s
    | _ => .fail 30
  | m + 1, listed, s => match Region.ready .any ops listed with
    | [] => .leaf .normal s
    | rs => match takeS cx ops listed s rs with
      | some (i, s') => anyS cx go ops m (listed.setIfInBounds i true) s'
      | none => allS (fun i => match ops[i]? with
        | none => .fail 32
        | some o => stepS cx go ops o (anyS cx go ops m (listed.setIfInBounds i true)) s) rs
def seqS (k : St → Tree) (x : SX) (s : St) : Tree := match x with
  | .normal => k s
  | x => .leaf x s
def outS (id : Nat) (x : SX) (s : St) : Tree := match x with
  | .exit j => match Nat.beq j id with
    | true => .leaf .normal s
    | false => .leaf x s
  | x => .leaf x s
def loopS (go : Code → St → Tree) (b : Code) : Nat → St → Tree
  | 0, _ => .fail 101
  | m + 1, s => (go b s).bind (seqS (loopS go b m))
def run (cx : Ctx) : Nat → Code → St → Tree
  | 0, _, _ => .fail 100
  | n + 1, c, s => match c with
    | .skip => .leaf .normal s
    | .region _ ops false => opsS cx (run cx n) ops ops.toList s
    | .region _ ops true => match Region.noSelect ops with
      | true => anyS cx (run cx n) ops ops.size (Array.replicate ops.size false) s
      | false => .fail 102
    | .seq a b => (run cx n a s).bind (seqS (run cx n b))
    | .cond c a b => match opc s s.pc c with
      | some (.bool e) => fork s e (run cx n a) (run cx n b)
      | _ => .fail 13
    | .block id b => (run cx n b s).bind (outS id)
    | .loop b => loopS (run cx n) b n s
    | .exit id => .leaf (.exit id) s
    | .ret => .leaf .ret s
    | .scope _ => .fail 14
    | .rangeFunc .. => .fail 15
    | _ => .fail 16
/-- a function's own run -/
inductive RTree where
  | ret (v : SV) (H : List (Nat × Blk)) | br (c : SE) (a b : RTree) | fail (why : Nat) | all (a b : RTree)
/-- a truth that is known, at the end -/
def settle (pc : List (SE × Bool)) (v : SV) : SV := match v with
  | .p (.c (.bool e)) => match dec pc e with
    | some true => .p (.c (.bool .tt))
    | some false => .p (.c (.bool .ff))
    | none => v
  | v => v
def Tree.rets (P : Program) (fn : Func) : Tree → RTree
  | .leaf (.exit _) _ => .fail 17
  | .leaf _ s => match resV P fn s with
    | some v => .ret (settle s.pc v) s.H
    | none => .fail 18
  | .br c a b => .br c (a.rets P fn) (b.rets P fn)
  | .fail w => .fail w
  | .all a b => .all (a.rets P fn) (b.rets P fn)
def runF (cx : Ctx) (fuel : Nat) (f : FuncId) (args : List SV) (H : List (Nat × Blk)) (n : Nat) : RTree := match cx.P.funcs[f]? with
  | some fn => match fn.body with
    | some c => match Nat.ble args.length fn.ntmps with
      | true => (run cx fuel c { F := slots 0 args, H := H, n := n, pc := [], nt := fn.ntmps }).rets cx.P fn
      | false => .fail 21
    | none => .fail 19
  | none => .fail 20
def RTree.Holds (ρ : Env) (Q : SV → List (Nat × Blk) → Prop) : RTree → Prop
  | .ret v H => Q v H
  | .br c a b => if c.tru ρ then a.Holds ρ Q else b.Holds ρ Q
  | .fail _ => False
  | .all a b => a.Holds ρ Q ∧ b.Holds ρ Q
end Go.Proofs.Ytddfafapahnaaaa.Sym
