/- The abstract machine: a deterministic reading of a Go program in which capacities, orders and the places of blocks are left open. -/
import GoSem.Step
namespace Go.AM

/-! ### finite maps keyed by numbers -/

inductive T (α : Type) where
  | leaf
  | node (l : T α) (v : Option α) (r : T α)
  deriving Inhabited

section
variable {α : Type}

def T.get : T α → Nat → Option α
  | .leaf, _ => none
  | .node l v r, n =>
    bif Nat.beq n 0 then v else bif Nat.beq (Nat.mod n 2) 1 then l.get (Nat.div n 2) else r.get (Nat.pred (Nat.div n 2))

def T.setF : Nat → T α → Nat → Option α → T α
  | 0, t, _, _ => t
  | f + 1, .leaf, n, v =>
    bif Nat.beq n 0 then .node .leaf v .leaf else
    bif Nat.beq (Nat.mod n 2) 1 then .node (setF f .leaf (Nat.div n 2) v) none .leaf else .node .leaf none (setF f .leaf (Nat.pred (Nat.div n 2)) v)
  | f + 1, .node l o r, n, v =>
    bif Nat.beq n 0 then .node l v r else
    bif Nat.beq (Nat.mod n 2) 1 then .node (setF f l (Nat.div n 2) v) o r else .node l o (setF f r (Nat.pred (Nat.div n 2)) v)

def T.set (t : T α) (n : Nat) (v : α) : T α := T.setF (Nat.succ n) t n (some v)

def T.ofList : List α → Nat → T α → T α
  | [], _, t => t
  | x :: xs, i, t => T.ofList xs (Nat.succ i) (t.set i x)
end

/-! ### the heap -/

/-- a row of cells: `n` of them are known; `st` 0: it may be written; 1: a longer row may lie over it; 2: it is gone. `par`: over which one it may lie. -/
structure Blk where
  c : T Value
  n : Nat
  elem : TypeId
  par : Option Nat
  st : Nat

inductive AObj where
  | blk (b : Blk)
  | map (es : List (Value × Value)) (clk : Nat)
  | hole      -- a map of which nothing is told
  | iter (m : Option Nat) (since : Nat)
  | loop (state : LoopState) (pending : Option Code) (fn : FuncId) (nt : Nat) (g : T Value) (params : Array Tmp) (assign body : Code) (defers : Nat)
  | defd (ds : Option (List Deferred))

/-- `nx`: the next number; what lies below `lo` may not be written. -/
structure S where
  h : T AObj
  nx : Nat
  lo : Nat

def S.push (s : S) (o : AObj) : S := match s with | ⟨h, nx, lo⟩ => ⟨h.set nx o, Nat.succ nx, lo⟩
def S.put (s : S) (i : Nat) (o : AObj) : S := match s with | ⟨h, nx, lo⟩ => ⟨h.set i o, nx, lo⟩
def S.blk? (s : S) (b : Nat) : Option Blk := match s.h.get b with | some (.blk b) => some b | _ => none
def newB (e : TypeId) (cs : List Value) : AObj := .blk ⟨T.ofList cs 0 .leaf, cs.length, e, none, 0⟩

def loadL (c : T Value) : Nat → Nat → Option (List Value)
  | 0, _ => some []
  | n + 1, i => match c.get i with
    | none => none
    | some v => match loadL c n (Nat.succ i) with
      | none => none
      | some l => some (v :: l)
def S.load (s : S) (b off n : Nat) : Option (List Value) :=
  match s.blk? b with
  | some ⟨c, m, _, _, st⟩ => bif Nat.blt st 2 && Nat.ble (Nat.add off n) m then loadL c n off else none
  | none => none
def S.cell (s : S) (b off : Nat) : Option Value :=
  match s.blk? b with
  | some ⟨c, m, _, _, st⟩ => bif Nat.blt st 2 && Nat.blt off m then c.get off else none
  | none => none

/-- the row over which another one may lie is gone -/
def S.kill (s : S) : Option Nat → Option S
  | none => some s
  | some p => bif Nat.ble s.lo p then
      match s.blk? p with
      | some ⟨c, n, e, q, _⟩ => some (s.put p (.blk ⟨c, n, e, q, 2⟩))
      | none => none
    else none
def storeL (c : T Value) (n : Nat) : List Value → Nat → Option (T Value)
  | [], _ => some c
  | v :: vs, i => bif Nat.blt i n then storeL (c.set i v) n vs (Nat.succ i) else none
def S.store (s : S) (b off : Nat) (vs : List Value) : Option S :=
  match s.blk? b with
  | some ⟨c, n, e, p, st⟩ => bif Nat.beq st 0 && Nat.ble s.lo b then
      match storeL c n vs off, s.kill p with
      | some c, some s => some (s.put b (.blk ⟨c, n, e, none, 0⟩))
      | _, _ => none
    else none
  | none => none

/-! ### values -/

/-- nothing is told of it -/
def poi : Value := .chan none
/-- what one cell may hold -/
def cellOk : Value → Bool
  | .tuple _ | .agg _ | .chan _ => false
  | _ => true
def notTup : Value → Bool
  | .tuple _ | .chan _ => false
  | _ => true
def allCells : List Value → Bool
  | [] => true
  | v :: vs => cellOk v && allCells vs
def allNotTup : List Value → Bool
  | [] => true
  | v :: vs => notTup v && allNotTup vs
/-- the cells of a value, where they may be stored -/
def cellsOf : Value → Option (List Value)
  | .agg cs => bif allCells cs.toList then some cs.toList else none
  | .tuple _ | .chan _ => none
  | v => some [v]

/-- values that hold no place -/
def plain0 : Value → Bool
  | .bool _ | .int _ _ | .string _ | .pointer none | .slice none 0 0 | .map none | .nilFunc | .nilIface => true
  | _ => false
def plainL : List Value → Bool
  | [] => true
  | v :: vs => plain0 v && plainL vs
def plainV : Value → Bool
  | .agg cs => plainL cs.toList
  | v => plain0 v

def ev (g : T Value) : Operand → Value
  | .tmp t => match g.get t with | some v => v | none => .tuple #[]
  | .const v => v
  | .global g => .pointer (some ⟨g, 0, none⟩)
  | .func f => .func (.func f) #[] #[]
/-- operands: temporaries, functions, constants without a place; no variables of a package -/
def opdOk : Operand → Bool
  | .tmp _ | .func _ => true
  | .const v => plainV v
  | .global _ => false
def opdsOk : List Operand → Bool
  | [] => true
  | x :: xs => opdOk x && opdsOk xs

def evs (g : T Value) : List Operand → List Value
  | [] => []
  | x :: xs => ev g x :: evs g xs

/-! ### operations -/

inductive OR where
  | val (v : Value) (s : S)
  | call (f : FuncId) (args : List Value)
  | round (l : Nat) (args : List Value)
  | dfr (f : FuncId) (captured args : List Value)
  | rcv
  | upd (r : Nat) (k x : Value)
  | pan (t : TypeId) (v : Value)
  | bad (n : Nat)

inductive Run where
  | pu (f : T Value → Option Value)
  | rd (f : T Value → S → Option Value)
  | al (f : T Value → Option (AObj × (Nat → Value)))
  | hd (f : T Value → S → OR)

def szOf (P : Program) (t : TypeId) : Option Nat := (P.info? t).map (·.size)
def zeroOf (P : Program) (t : TypeId) : Option Value := (P.info? t).bind (·.zero)
def aggB (P : Program) (t : TypeId) : Bool := match P.underlying t with | some (.struct _) | some (.array _ _) => true | _ => false

def rdNo : Run := .pu fun _ => none
def ptrTo (b off : Nat) : Value := .pointer (some ⟨b, off, none⟩)

def inR (lo hi n : Int) : Bool := decide (lo ≤ n) && decide (n ≤ hi)
def wrapF (k : IntKind) (n : Int) : Int :=
  match k with
  | .i64 => bif inR (-9223372036854775808) 9223372036854775807 n then n else IntKind.i64.wrap n
  | .u32 => bif inR 0 4294967295 n then n else IntKind.u32.wrap n
  | .u8 => bif inR 0 255 n then n else IntKind.u8.wrap n
  | k => k.wrap n

def arith (op : BinOp) (k : IntKind) (x y : Int) : Option Value :=
  match op with
  | .add => some (.int k (wrapF k (x + y)))
  | .sub => some (.int k (wrapF k (x - y)))
  | .mul => some (.int k (wrapF k (x * y)))
  | .quo => bif decide (y = 0) then none else some (.int k (wrapF k (x.tdiv y)))
  | .rem => bif decide (y = 0) then none else some (.int k (x.tmod y))
  | .eql => some (.bool (decide (x = y)))
  | .neq => some (.bool (!decide (x = y)))
  | .lss => some (.bool (decide (x < y)))
  | .leq => some (.bool (decide (x ≤ y)))
  | .gtr => some (.bool (decide (y < x)))
  | .geq => some (.bool (decide (y ≤ x)))
  | .and => some (.int k (k.wrap (BitVec.ofInt k.bits x &&& BitVec.ofInt k.bits y).toNat))
  | .or => some (.int k (k.wrap (BitVec.ofInt k.bits x ||| BitVec.ofInt k.bits y).toNat))
  | .xor => some (.int k (k.wrap (BitVec.ofInt k.bits x ^^^ BitVec.ofInt k.bits y).toNat))
  | .andNot => some (.int k (k.wrap (BitVec.ofInt k.bits x &&& ~~~ (BitVec.ofInt k.bits y)).toNat))
  | _ => none
def shiftV (op : BinOp) (k : IntKind) (x : Int) (y : Int) : Option Value :=
  match op with
  | .shl => bif decide (y < 0) then none else some (.int k (k.wrap (x * 2 ^ (min y.toNat k.bits))))
  | .shr => bif decide (y < 0) then none else some (.int k (x.fdiv (2 ^ (min y.toNat k.bits))))
  | _ => none
def isShift : BinOp → Bool
  | .shl | .shr => true
  | _ => false
def kindEq (a b : IntKind) : Bool := decide (a = b)

def bytesEq : List UInt8 → List UInt8 → Bool
  | [], [] => true
  | a :: x, b :: y => bif Nat.beq a.toNat b.toNat then bytesEq x y else false
  | _, _ => false
def bytesLt : List UInt8 → List UInt8 → Bool
  | _, [] => false
  | [], _ :: _ => true
  | a :: x, b :: y => bif Nat.blt a.toNat b.toNat then true else bif Nat.beq a.toNat b.toNat then bytesLt x y else false
def strOp (op : BinOp) (a b : List UInt8) : Option Value :=
  match op with
  | .add => bif Nat.ble (a.length + b.length) 9223372036854775807 then some (.string ⟨(a ++ b).toArray⟩) else none
  | .eql => some (.bool (bytesEq a b))
  | .neq => some (.bool (!bytesEq a b))
  | .lss => some (.bool (bytesLt a b))
  | .leq => some (.bool (bytesLt a b || bytesEq a b))
  | .gtr => some (.bool (!(bytesLt a b || bytesEq a b)))
  | .geq => some (.bool (!bytesLt a b))
  | _ => none

/-- '==' against nil, and on flags -/
def eqNil (d : TypeDesc) (cst : Bool) (x y : Value) : Option Bool :=
  match d, x, y with
  | .bool, .bool a, .bool b => some (a == b)
  | .pointer _, .pointer none, .pointer b => some b.isNone
  | .pointer _, .pointer (some _), .pointer none => some false
  | .map _ _, .map none, .map b => some b.isNone
  | .map _ _, .map (some _), .map none => some false
  | .slice _, .slice none _ _, .slice b _ _ => some b.isNone
  | .slice _, .slice (some _) _ _, .slice none _ _ => some false
  | .func _ _ _, .nilFunc, .nilFunc => some true
  | .func _ _ _, .nilFunc, .func _ _ _ => some false
  | .func _ _ _, .func _ _ _, .nilFunc => some false
  | .interface _, .nilIface, .nilIface => bif cst then some true else none
  | .interface _, .nilIface, .iface _ _ => some false
  | .interface _, .iface _ _, .nilIface => some false
  | _, _, _ => none
def isConst : Operand → Bool
  | .const _ => true
  | _ => false
def negIf (neg : Bool) : Option Bool → Option Value
  | some b => some (.bool (bif neg then !b else b))
  | none => none
def eqV (d : TypeDesc) (cst neg : Bool) (x y : Value) : Option Value := negIf neg (eqNil d cst x y)

def bin (op : BinOp) (d : TypeDesc) (cst : Bool) (x y : Value) : Option Value :=
  match x, y with
  | .int k a, .int k' b =>
    bif isShift op then shiftV op k a b else bif kindEq k k' then arith op k a b else none
  | .string a, .string b => strOp op a.data.toList b.data.toList
  | x, y => match op with
    | .eql => eqV d cst false x y
    | .neq => eqV d cst true x y
    | _ => none

def strBytes : List UInt8 → List Value
  | [] => []
  | b :: l => .int .u8 b.toNat :: strBytes l
def bytesStr : List Value → Option (List UInt8)
  | [] => some []
  | .int .u8 n :: vs => match bytesStr vs with | some l => some (UInt8.ofNat n.toNat :: l) | none => none
  | _ => none

/-- maps whose keys are numbers of one kind, or strings -/
inductive KeyKind where
  | int (k : IntKind)
  | str
def keyKind (P : Program) (t : TypeId) : Option KeyKind :=
  match P.underlying t with
  | some (.int k) => some (.int k)
  | some .string => some .str
  | _ => none
def keyEq (kk : KeyKind) (x y : Value) : Option Bool :=
  match kk, x, y with
  | .int k, .int a m, .int b n => bif kindEq k a && kindEq k b then some (decide (m = n)) else none
  | .str, .string a, .string b => some (bytesEq a.data.toList b.data.toList)
  | _, _, _ => none
def findK (kk : KeyKind) (k : Value) : List (Value × Value) → Option (Option Value)
  | [] => some none
  | (k', v) :: es => match keyEq kk k k' with
    | some true => some (some v)
    | some false => findK kk k es
    | none => none
/-- with the entry; true: it is a new one -/
def putK (kk : KeyKind) (k v : Value) : List (Value × Value) → Option (Bool × List (Value × Value))
  | [] => some (true, [(k, v)])
  | (k', v') :: es => match keyEq kk k k' with
    | some true => some (false, (k, v) :: es)
    | some false => match putK kk k v es with | some (b, l) => some (b, (k', v') :: l) | none => none
    | none => none
def keyOk (kk : KeyKind) (x : Value) : Bool :=
  match kk, x with
  | .int k, .int a _ => kindEq k a
  | .str, .string _ => true
  | _, _ => false

/-- struct and array parts -/
def partL (agg : Bool) (n : Nat) (cs : List Value) (off : Nat) : Option Value :=
  bif agg then some (.agg (((cs.drop off).take n).toArray)) else cs[off]?

def spliceL : List Value → Nat → List Value → List Value
  | cs, 0, vs => vs ++ cs.drop vs.length
  | [], _, _ => []
  | c :: cs, n + 1, vs => c :: spliceL cs n vs
/-- the parts of a build: where each begins, its cells -/
def fillL (cs : List Value) : List (Nat × Nat × Value) → Option (List Value)
  | [] => some cs
  | (off, n, v) :: rest => match cellsOf v with
    | some vs => bif Nat.beq vs.length n && Nat.ble (off + vs.length) cs.length then fillL (spliceL cs off vs) rest else none
    | none => none
def partsL (g : T Value) : List (Nat × Nat × Operand) → List (Nat × Nat × Value)
  | [] => []
  | (o, n, x) :: l => (o, n, ev g x) :: partsL g l
/-- the places of a struct's parts, of an array's -/
def placesS (P : Program) (fs : Array Field) : List (Nat × Operand) → Option (List (Nat × Nat × Operand))
  | [] => some []
  | (i, x) :: l => match fs[i]? with
    | some f => match szOf P f.type, placesS P fs l with
      | some n, some r => bif opdOk x then some ((f.offset, n, x) :: r) else none
      | _, _ => none
    | none => none
def placesA (n : Nat) : List (Nat × Operand) → Option (List (Nat × Nat × Operand))
  | [] => some []
  | (i, x) :: l => match placesA n l with
    | some r => bif opdOk x then some ((i * n, n, x) :: r) else none
    | none => none
def fieldsOk (P : Program) : List Field → Bool
  | [] => true
  | f :: fs => (szOf P f.type).isSome && fieldsOk P fs

def repL : Nat → List Value → List Value
  | 0, _ => []
  | n + 1, l => l ++ repL n l

def bndV (x : Option Operand) (g : T Value) (dflt : Nat) : Option Nat :=
  match x with
  | none => some dflt
  | some x => match ev g x with
    | .int _ n => bif decide (0 ≤ n) then some n.toNat else none
    | _ => none
def optOk : Option Operand → Bool
  | none => true
  | some x => opdOk x

def natOf (n : Int) (hi : Nat) : Option Nat := bif decide (0 ≤ n) && Nat.blt n.toNat hi then some n.toNat else none

/-- what an append brings -/
def srcOf (s : S) (size : Nat) : Value → Option (List Value × Nat)
  | .slice none n _ => bif Nat.beq n 0 then some ([], 0) else none
  | .slice (some a) n _ => match s.load a.block a.off (n * size) with | some l => some (l, n) | none => none
  | .string b => bif Nat.beq size 1 then some (strBytes b.data.toList, b.size) else none
  | _ => none

/-- a slice whose capacity is at least c; the elements' size stands with it -/
def openS (z b n c : Nat) : Value := .slice (some ⟨b, 0, some z⟩) n c

def doAppend (s : S) (e size bytes : Nat) (x : Value) (new : List Value) (n : Nat) : OR :=
  match x with
  | .slice base len cap =>
    bif Nat.ble (len + n) cap then
      match base with
      | none => .val (.slice none (len + n) cap) s
      | some a => bif allCells new then
        match s.store a.block (a.off + len * size) new with
        | some s => .val (.slice base (len + n) cap) s
        | none => .bad 102
        else .bad 107
    else bif Nat.ble ((len + n) * bytes) 1000000000 && Nat.ble (cap * bytes) 1000000000 && Nat.ble (len + n) 1000000000 && Nat.ble cap 1000000000 then
      match base with
      | none => bif Nat.beq len 0 then .val (openS size s.nx n n) (s.push (newB e new)) else .bad 110
      | some a =>
        match s.load a.block a.off (len * size) with
        | none => .bad 103
        | some old =>
          match a.spot with
          | none => .val (openS size s.nx (len + n) (len + n)) (s.push (newB e (old ++ new)))
          | some z =>
            match s.blk? a.block with
            | none => .bad 104
            | some ⟨c, m, e', p, st⟩ =>
              bif Nat.beq st 0 && Nat.beq m (a.off + len * size) && Nat.beq z size && Nat.beq e e' && allCells new && Nat.ble s.lo a.block then
                match s.kill p with
                | some s => .val (openS size s.nx (len + n) (len + n))
                  ((s.put a.block (.blk ⟨c, m, e', none, 1⟩)).push
                    (.blk ⟨T.ofList (old ++ new) 0 .leaf, (old ++ new).length, e, some a.block, 0⟩))
                | none => .bad 106
              else .bad 105
    else .bad 108
  | _ => .bad 100

def spotOk (sp : Option Nat) (z : Nat) : Bool := match sp with | none => true | some y => Nat.beq y z

def argsL (c : Call) : List Operand := c.args.toList

def bodyOk (P : Program) (f : FuncId) : Bool :=
  match P.funcs[f]? with
  | some fn => fn.body.isSome && !(fn.name == "runtime.NumGoroutine")
  | none => false

def callV (P : Program) (f : Value) (args : List Value) : OR :=
  match f with
  | .func (.func f) first captured => bif bodyOk P f then .call f (first.toList ++ args ++ captured.toList) else .bad 7
  | .func (.yield l) _ _ => .round l args
  | _ => .bad 8

def sliceElem (P : Program) (t : TypeId) : Option TypeId :=
  match P.underlying t with
  | some (.slice e) => some e
  | _ => none

def lenR (d : TypeDesc) (x : Operand) : Run :=
  match d with
  | .string => .pu fun g => match ev g x with | .string b => some (goInt b.size) | _ => none
  | .array n _ => .pu fun g => bif notTup (ev g x) then some (goInt n) else none
  | .slice _ => .pu fun g => match ev g x with | .slice _ n _ => some (goInt n) | _ => none
  | .map _ _ => .rd fun g s => match ev g x with
    | .map none => some (goInt 0)
    | .map (some r) => match s.h.get r with | some (.map es _) => some (goInt es.length) | _ => none
    | _ => none
  | _ => rdNo

def minI (gt : Bool) (x y : Int) : Int := bif gt then (bif decide (y > x) then y else x) else (bif decide (y < x) then y else x)
def minL (gt : Bool) : Int → List Value → Option Int
  | m, [] => some m
  | m, .int _ y :: l => minL gt (minI gt m y) l
  | _, _ => none

def isIntT (P : Program) : Option TypeId → Bool
  | some t => match P.underlying t with | some (.int _) => true | _ => false
  | none => false

def typeOk (P : Program) : Option TypeId → Bool
  | some t => (P.underlying t).isSome
  | none => true

def appendR (P : Program) (c : Call) : Run :=
  match c.argTypes[0]?, c.args.toList with
  | some t, [x, y] => match sliceElem P t with
    | some e => match P.info? e with
      | some i => match i.zero with
        | some z => bif plainV z && Nat.beq z.cells.size i.size && !Nat.beq i.size 0 && !Nat.beq i.bytes 0 && opdOk x && opdOk y && typeOk P c.argTypes[1]? then
            (bif isIntT P c.argTypes[1]? then
              .hd fun g s => match ev g y with
                | .int _ k => bif inR 0 1000000 k && Nat.ble (k.toNat * i.bytes) 1000000000 then doAppend s e i.size i.bytes (ev g x) (repL k.toNat z.cells.toList) k.toNat else .bad 31
                | _ => .bad 32
            else .hd fun g s => match srcOf s i.size (ev g y) with
                | some (new, k) => doAppend s e i.size i.bytes (ev g x) new k
                | none => .bad 101)
          else rdNo
        | none => rdNo
      | none => rdNo
    | none => rdNo
  | _, _ => rdNo

def builtinR (P : Program) (b : Builtin) (c : Call) : Run :=
  match b with
  | .len => match c.argTypes[0]?, c.args.toList with
    | some t, [x] => match P.underlying t with
      | some d => bif opdOk x then lenR d x else rdNo
      | none => rdNo
    | _, _ => rdNo
  | .cap => match c.argTypes[0]?, c.args.toList with
    | some t, [x] => match P.underlying t with
      | some (.slice _) => bif opdOk x then .pu fun g => match ev g x with
        | .slice none _ n => some (goInt n)
        | .slice (some a) _ n => match a.spot with | none => some (goInt n) | some _ => none
        | _ => none
        else rdNo
      | _ => rdNo
    | _, _ => rdNo
  | .append => appendR P c
  | .min => match c.args.toList with
    | x :: xs => bif opdsOk (x :: xs) then .pu fun g => match ev g x with
      | .int k n => match minL false n (evs g xs) with | some m => some (.int k m) | none => none
      | _ => none
      else rdNo
    | _ => rdNo
  | .max => match c.args.toList with
    | x :: xs => bif opdsOk (x :: xs) then .pu fun g => match ev g x with
      | .int k n => match minL true n (evs g xs) with | some m => some (.int k m) | none => none
      | _ => none
      else rdNo
    | _ => rdNo
  | .recover => match c.args.toList with
    | [] => .hd fun _ _ => .rcv
    | _ => rdNo
  | _ => rdNo

def callR (P : Program) (c : Call) : Run :=
  match c.callee with
  | .builtin b => builtinR P b c
  | .invoke _ _ => rdNo
  | .value f => bif opdOk f && opdsOk c.args.toList then
      .hd fun g _ => bif allNotTup (evs g c.args.toList) then callV P (ev g f) (evs g c.args.toList) else .bad 30
    else rdNo

def cr (P : Program) (o : Op) : Run :=
  match o with
  | .move x => bif opdOk x then .pu fun g => some (ev g x) else rdNo
  | .assign x => bif opdOk x then .pu fun g => some (ev g x) else rdNo
  | .pick c a b => bif opdOk c && opdOk a && opdOk b then .pu fun g => match ev g c with | .bool t => some (bif t then ev g a else ev g b) | _ => none else rdNo
  | .alloc e => match zeroOf P e with
    | some z => bif plainV z then .al fun _ => some (newB e z.cells.toList, fun b => ptrTo b 0) else rdNo
    | none => rdNo
  | .box e x => bif opdOk x then .al fun g => match cellsOf (ev g x) with
      | some cs => some (newB e cs, fun b => ptrTo b 0)
      | none => none
    else rdNo
  | .build t parts => match zeroOf P t with
    | some z => bif plainV z then
        match P.underlying t with
        | some (.struct fs) => bif fieldsOk P fs.toList then
            match placesS P fs parts.toList with
            | some ps => .pu fun g => match fillL z.cells.toList (partsL g ps) with | some cs => some (.agg cs.toArray) | none => none
            | none => rdNo
          else rdNo
        | some (.array _ e) => match szOf P e with
          | some n => match placesA n parts.toList with
            | some ps => .pu fun g => match fillL z.cells.toList (partsL g ps) with | some cs => some (.agg cs.toArray) | none => none
            | none => rdNo
          | none => rdNo
        | _ => rdNo
      else rdNo
    | none => rdNo
  | .buildSlice t len parts => match sliceElem P t with
    | some e => match szOf P e, zeroOf P e with
      | some n, some z => bif plainV z && Nat.beq z.cells.size n && !Nat.beq n 0 && Nat.ble (len * n) 16777216 then
          match placesA n parts.toList with
          | some ps => .al fun g => match fillL (repL len z.cells.toList) (partsL g ps) with
            | some cs => some (newB e cs, fun b => .slice (some ⟨b, 0, none⟩) len len)
            | none => none
          | none => rdNo
        else rdNo
      | _, _ => rdNo
    | none => rdNo
  | .load t a => bif opdOk a then
      (bif aggB P t then
        match szOf P t with
        | some n => .rd fun g s => match ev g a with
          | .pointer (some p) => match s.load p.block p.off n with | some l => some (.agg l.toArray) | none => none
          | _ => none
        | none => rdNo
      else match P.underlying t with
        | some _ => .rd fun g s => match ev g a with
          | .pointer (some p) => s.cell p.block p.off
          | _ => none
        | none => rdNo)
    else rdNo
  | .store t a x => bif opdOk a && opdOk x then
      match szOf P t with
      | some n => .hd fun g s => match ev g a with
        | .pointer (some p) => match cellsOf (ev g x) with
          | some cs => bif Nat.beq cs.length n && allCells cs then
              match s.store p.block p.off cs with | some s => .val (.tuple #[]) s | none => .bad 56
            else .bad 57
          | none => .bad 55
        | _ => .bad 59
      | none => rdNo
    else rdNo
  | .nilCheck x => bif opdOk x then .pu fun g => match ev g x with
      | .pointer (some a) => some (.pointer (some a))
      | .func (.func f) a b => some (.func (.func f) a b)
      | _ => none
    else rdNo
  | .binOp op t x y _ => bif opdOk x && opdOk y then
      match P.underlying t with
      | some d => .pu fun g => bin op d (isConst x || isConst y) (ev g x) (ev g y)
      | none => rdNo
    else rdNo
  | .unOp op _ x => bif opdOk x then
      match op with
      | .not => .pu fun g => match ev g x with | .bool b => some (.bool (!b)) | _ => none
      | .neg => .pu fun g => match ev g x with | .int k n => some (.int k (wrapF k (0 - n))) | _ => none
      | _ => rdNo
    else rdNo
  | .convert src dst x => bif opdOk x then
      match P.underlying src, P.underlying dst with
      | some _, some (.int k) => .pu fun g => match ev g x with | .int _ n => some (.int k (wrapF k n)) | _ => none
      | some .string, some .string => .pu fun g => match ev g x with | .string b => some (.string b) | _ => none
      | some .string, some (.slice e) => match P.underlying e, szOf P e with
        | some (.int .u8), some 1 => .al fun g => match ev g x with
          | .string b => some (newB e (strBytes b.data.toList), fun i => openS 1 i b.size b.size)
          | _ => none
        | _, _ => rdNo
      | some (.slice e), some .string => match P.underlying e with
        | some (.int .u8) => .rd fun g s => match ev g x with
          | .slice none _ _ => some (.string .empty)
          | .slice (some a) n _ => match s.load a.block a.off n with
            | some l => match bytesStr l with | some l => some (.string ⟨l.toArray⟩) | none => none
            | none => none
          | _ => none
        | _ => rdNo
      | some (.slice _), some (.slice e) => bif Nat.beq src dst then
          match P.underlying e with
          | some (.int .u8) => .hd fun g s => match ev g x with
            | .slice (some a) n c => match s.blk? a.block with
              | some b => bif Nat.blt b.st 2 then .val (.slice (some a) n c) s else .bad 67
              | none => .bad 68
            | _ => .bad 69
          | _ => rdNo
        else rdNo
      | _, _ => rdNo
    else rdNo
  | .makeInterface t x => bif opdOk x then
      match P.underlying t with
      | some (.interface _) => rdNo
      | some _ => .pu fun g => bif notTup (ev g x) then some (.iface t (ev g x)) else none
      | none => rdNo
    else rdNo
  | .makeFunc fn first captured => match fn with
    | .func f => bif opdsOk first.toList && opdsOk captured.toList then
        .pu fun g => bif allNotTup (evs g first.toList) && allNotTup (evs g captured.toList) then
          some (.func (.func f) (evs g first.toList).toArray (evs g captured.toList).toArray) else none
      else rdNo
    | _ => rdNo
  | .makeMap _ r => match r with
    | none => .al fun _ => some (.map [] 0, fun b => .map (some b))
    | some _ => rdNo
  | .makeSlice t l c => bif opdOk l && opdOk c then
      match sliceElem P t with
      | some e => match P.info? e with
        | some i => match i.zero with
          | some z => bif plainV z && Nat.beq z.cells.size i.size && !Nat.beq i.size 0 then
              .al fun g => match ev g l, ev g c with
                | .int _ l, .int _ c => bif decide (0 ≤ l) && decide (l ≤ c) && inR 0 100000000 c && Nat.ble (i.bytes * c.toNat) 1000000000 then
                    some (newB e (repL c.toNat z.cells.toList), fun b => .slice (some ⟨b, 0, none⟩) l.toNat c.toNat)
                  else none
                | _, _ => none
            else rdNo
          | none => rdNo
        | none => rdNo
      | none => rdNo
    else rdNo
  | .slice t x lo hi mx => bif opdOk x && optOk lo && optOk hi then
      match mx with
      | some _ => rdNo
      | none => match P.underlying t with
        | some .string => .pu fun g => match ev g x with
          | .string b => match bndV lo g 0, bndV hi g b.size with
            | some l, some h => bif Nat.ble l h && Nat.ble h b.size then some (.string ⟨((b.data.toList.take h).drop l).toArray⟩) else none
            | _, _ => none
          | _ => none
        | some (.slice e) => match szOf P e with
          | some z => .pu fun g => match ev g x with
            | .slice a len cap => match bndV lo g 0, bndV hi g len with
              | some l, some h => bif Nat.ble l h && Nat.ble h cap then
                  match a with
                  | none => some (.slice none (h - l) (cap - l))
                  | some a => bif spotOk a.spot z then some (.slice (some ⟨a.block, a.off + l * z, a.spot⟩) (h - l) (cap - l)) else none
                else none
              | _, _ => none
            | _ => none
          | none => rdNo
        | _ => rdNo
    else rdNo
  | .fieldAddr t x f => bif opdOk x then
      match P.underlying t with
      | some (.struct fs) => match fs[f]? with
        | some fd => match szOf P fd.type with
          | some (_ + 1) => .pu fun g => match ev g x with
            | .pointer (some a) => some (ptrTo a.block (a.off + fd.offset))
            | _ => none
          | _ => rdNo
        | none => rdNo
      | _ => rdNo
    else rdNo
  | .field t x f => bif opdOk x then
      match P.underlying t with
      | some (.struct fs) => match fs[f]? with
        | some fd => match P.underlying fd.type, szOf P fd.type with
          | some _, some n => .pu fun g => match ev g x with
            | .agg cs => partL (aggB P fd.type) n cs.toList fd.offset
            | _ => none
          | _, _ => rdNo
        | none => rdNo
      | _ => rdNo
    else rdNo
  | .indexAddr t x i => bif opdOk x && opdOk i then
      match P.underlying t with
      | some (.slice e) => match szOf P e with
        | some z => .pu fun g => match ev g x, ev g i with
          | .slice (some a) n _, .int _ i => match natOf i n with | some j => some (ptrTo a.block (a.off + j * z)) | none => none
          | _, _ => none
        | none => rdNo
      | some (.array n e) => match szOf P e with
        | some z => .pu fun g => match ev g x, ev g i with
          | .pointer (some a), .int _ i => match natOf i n with | some j => some (ptrTo a.block (a.off + j * z)) | none => none
          | _, _ => none
        | none => rdNo
      | _ => rdNo
    else rdNo
  | .index t x i => bif opdOk x && opdOk i then
      match P.underlying t with
      | some .string => .pu fun g => match ev g x, ev g i with
        | .string b, .int _ i => match natOf i b.size with
          | some j => match b.data.toList[j]? with | some c => some (.int .u8 c.toNat) | none => none
          | none => none
        | _, _ => none
      | some (.array n e) => match P.underlying e, szOf P e with
        | some _, some z => .pu fun g => match ev g x, ev g i with
          | .agg cs, .int _ i => match natOf i n with | some j => partL (aggB P e) z cs.toList (j * z) | none => none
          | _, _ => none
        | _, _ => rdNo
      | _ => rdNo
    else rdNo
  | .lookup t x k ok => bif opdOk x && opdOk k then
      match P.underlying t with
      | some (.map kt et) => match keyKind P kt, zeroOf P et with
        | some kk, some z => bif plainV z then .rd fun g s =>
            bif keyOk kk (ev g k) then
              match ev g x with
              | .map none => some (bif ok then .tuple #[z, .bool false] else z)
              | .map (some r) => match s.h.get r with
                | some (.map es _) => match findK kk (ev g k) es with
                  | some (some v) => some (bif ok then .tuple #[v, .bool true] else v)
                  | some none => some (bif ok then .tuple #[z, .bool false] else z)
                  | none => none
                | _ => none
              | _ => none
            else none
          else rdNo
        | _, _ => rdNo
      | _ => rdNo
    else rdNo
  | .mapUpdate t m k x => mapR t m k x
  | .insert t m k x => mapR t m k x
  | .range t x => bif opdOk x then
      match P.underlying t with
      | some (.map _ _) => .hd fun g s => match ev g x with
        | .map (some m) => match s.h.get m with
          | some (.map _ c) => .val (ptrTo s.nx 0) (s.push (.iter (some m) c))
          | _ => .bad 121
        | _ => .bad 122
      | _ => rdNo
    else rdNo
  | .next it str => bif opdOk it && !str then
      .hd fun g s => match ev g it with
        | .pointer (some ⟨r, 0, _⟩) => match s.h.get r with
          | some (.iter (some m) c) => match s.h.get m with
            | some (.map [] c') => bif Nat.beq c c' then .val (.tuple #[.bool false]) s else .bad 125
            | _ => .bad 123
          | _ => .bad 124
        | _ => .bad 126
    else rdNo
  | .typeAssert x _ a ok => bif opdOk x && ok then
      match P.underlying a, zeroOf P a with
      | some (.interface _), _ => rdNo
      | some _, some z => bif plainV z then .pu fun g => match ev g x with
          | .nilIface => some (.tuple #[z, .bool false])
          | .iface t v => bif Nat.beq t a then some (.tuple #[v, .bool true]) else some (.tuple #[z, .bool false])
          | _ => none
        else rdNo
      | _, _ => rdNo
    else rdNo
  | .extract t i => bif opdOk t then .pu fun g => match ev g t with | .tuple vs => vs.toList[i]? | _ => none else rdNo
  | .call c => callR P c
  | .defer c => match c.callee with
    | .value f => bif opdOk f && opdsOk c.args.toList then
        .hd fun g _ => bif allNotTup (evs g c.args.toList) then
          match ev g f with
          | .func (.func f) first captured => bif bodyOk P f then .dfr f captured.toList (first.toList ++ evs g c.args.toList) else .bad 133
          | _ => .bad 134
          else .bad 135
      else rdNo
    | _ => rdNo
  | .panic x => bif opdOk x then .hd fun g _ => match ev g x with | .iface t v => .pan t v | _ => .bad 136 else rdNo
  | _ => rdNo
  where
  mapR (t : TypeId) (m k x : Operand) : Run := bif opdOk m && opdOk k && opdOk x then
      match P.underlying t with
      | some (.map kt _) => match keyKind P kt with
        | some kk => .hd fun g s => match ev g m with
          | .map (some r) => match s.h.get r with
            | some (.map es c) => bif keyOk kk (ev g k) && notTup (ev g x) && Nat.ble s.lo r then
                match putK kk (ev g k) (ev g x) es with
                | some (nw, es) => .val (.tuple #[]) (s.put r (.map es (bif nw then Nat.succ c else c)))
                | none => .bad 113
              else .bad 116
            | some .hole => bif keyOk kk (ev g k) && notTup (ev g x) then .upd r (ev g k) (ev g x) else .bad 117
            | _ => .bad 114
          | _ => .bad 115
        | none => rdNo
      | _ => rdNo
    else rdNo

end Go.AM
