/- The abstract machine: frames and steps. -/
import Derived.Test.YteoodndfkdfnaaaGreatDoorAmDef
namespace Go.AM

inductive Gd where
  | no
  | on (d : Tmp) (want : Bool)

structure Cl where
  r : Run
  dst : Option Tmp
  gd : Gd

def mkGd (all : Array Oper) (g : Option (Nat × Bool)) : Option Gd :=
  match g with
  | none => some .no
  | some (j, w) => match all[j]? with
    | some o => match o.dst with | some d => some (.on d w) | none => none
    | none => none
def dstOk (nt : Nat) : Option Tmp → Bool
  | none => true
  | some d => Nat.blt d nt
def gdOk (nt : Nat) : Gd → Bool
  | .no => true
  | .on d _ => Nat.blt d nt
def mkCl (P : Program) (nt : Nat) (all : Array Oper) (o : Oper) : Cl :=
  match mkGd all o.guard with
  | some gd => bif dstOk nt o.dst && gdOk nt gd then ⟨cr P o.op, o.dst, gd⟩ else ⟨rdNo, none, .no⟩
  | none => ⟨rdNo, none, .no⟩
def mkCls (P : Program) (nt : Nat) (all : Array Oper) : List Oper → List Cl
  | [] => []
  | o :: l => mkCl P nt all o :: mkCls P nt all l

def putD (g : T Value) (d : Option Tmp) (v : Value) : T Value := match d with | some d => g.set d v | none => g
def gdT (gd : Gd) (g : T Value) : Option Bool :=
  match gd with
  | .no => some true
  | .on d w => match ev g (.tmp d) with
    | .bool b => some (b == w)
    | .tuple _ => some false
    | _ => none
def und : Value := .tuple #[]

inductive RR where
  | fin (g : T Value) (s : S)
  | at_ (l : List Cl) (g : T Value) (s : S) (r : OR)      -- the head is under way
  | bad (n : Nat)

def runOps : List Cl → T Value → S → RR
  | [], g, s => .fin g s
  | ⟨r, dst, gd⟩ :: l, g, s =>
    match gdT gd g with
    | none => .bad 300
    | some false => runOps l (putD g dst und) s
    | some true => match r with
      | .pu f => match f g with
        | some v => runOps l (putD g dst v) s
        | none => .bad 303
      | .rd f => match f g s with
        | some v => runOps l (putD g dst v) s
        | none => .bad 301
      | .al f => match f g with
        | some (o, mk) => runOps l (putD g dst (mk s.nx)) (s.push o)
        | none => .bad 302
      | .hd f => match f g s with
        | .val v s => runOps l (putD g dst v) s
        | r' => .at_ (⟨r, dst, gd⟩ :: l) g s r'

/-! ### regions that draw -/

/-- an operation of such a region: `lo`, `hi`: behind how many hard ones it comes at the earliest, at the latest; `hard`. -/
structure Dop where
  cl : Cl
  hard : Bool
  lo : Nat
  hi : Nat

structure Plan where
  ops : List Dop
  hs : List Cl

def isHd : Run → Bool
  | .hd _ => true
  | _ => false
def isMv : Op → Bool
  | .move _ => true
  | _ => false

/-- before-sets as numbers -/
def befOf (acc : List Nat) : List Edge → Nat → Nat
  | [], m => m
  | e :: es, m => befOf acc es (bif Region.binds .any e then Nat.lor (Nat.lor m (2 ^ e.on)) (acc.getD e.on 0) else m)
def edgesOk (i : Nat) : List Edge → Bool
  | [] => true
  | e :: es => (!Region.binds .any e || Nat.blt e.on i) && edgesOk i es
/-- (the before-sets so far, in order) -/
def befs : List Oper → Nat → List Nat → Option (List Nat)
  | [], _, acc => some acc
  | o :: l, i, acc => bif edgesOk i o.after.toList then befs l (Nat.succ i) (acc ++ [befOf acc o.after.toList 0]) else none

def reads (o : Oper) (all : Array Oper) : List Tmp :=
  (o.op.operands.toList.filterMap fun | .tmp t => some t | _ => none) ++
  (match o.guard with
   | some (j, _) => (match all[j]? with
     | some oj => (match oj.dst with | some d => [d] | none => [])
     | none => [])
   | none => [])

/-- who writes t -/
def writer : List Oper → Nat → Tmp → Option Nat
  | [], _, _ => none
  | o :: l, i, t => match o.dst with
    | some d => bif Nat.beq d t then some i else writer l (Nat.succ i) t
    | none => writer l (Nat.succ i) t
def distinctD : List Oper → List Tmp → Bool
  | [], _ => true
  | o :: l, ds => match o.dst with
    | some d => !ds.contains d && distinctD l (d :: ds)
    | none => distinctD l ds
def readsOk (ops : List Oper) (bs : List Nat) (i : Nat) (mv : Bool) : List Tmp → Bool
  | [] => true
  | t :: ts => (match writer ops 0 t with
      | none => true
      | some w => Nat.testBit (bs.getD i 0) w || (mv && Nat.testBit (bs.getD w 0) i)) && readsOk ops bs i mv ts
def allReadsOk (all : Array Oper) (ops : List Oper) (bs : List Nat) : List Oper → Nat → Bool
  | [], _ => true
  | o :: l, i => readsOk ops bs i (isMv o.op) (reads o all) && allReadsOk all ops bs l (Nat.succ i)

def hardsOf : List Cl → Nat → List Nat
  | [], _ => []
  | c :: l, i => bif isHd c.r then i :: hardsOf l (Nat.succ i) else hardsOf l (Nat.succ i)
def chained (bs : List Nat) : List Nat → Bool
  | a :: b :: l => Nat.testBit (bs.getD b 0) a && chained bs (b :: l)
  | _ => true
def loOf (b : Nat) : List Nat → Nat
  | [] => 0
  | h :: l => bif Nat.testBit b h then Nat.succ (loOf b l) else 0
def hiOf (bs : List Nat) (i : Nat) : List Nat → Nat
  | [] => 0
  | h :: l => bif Nat.testBit (bs.getD h 0) i then 0 else Nat.succ (hiOf bs i l)
def mkDops (bs hs : List Nat) : List Oper → List Cl → Nat → List Dop
  | o :: l, c :: cs, i => ⟨c, isHd c.r, loOf (bs.getD i 0) hs, hiOf bs i hs⟩ :: mkDops bs hs l cs (Nat.succ i)
  | _, _, _ => []
def pick (cs : List Cl) : List Nat → List Cl
  | [] => []
  | h :: l => match cs[h]? with | some c => c :: pick cs l | none => pick cs l
def planOf (P : Program) (nt : Nat) (all : Array Oper) : Option Plan :=
  let ops := all.toList
  let cs := mkCls P nt all ops
  match befs ops 0 [] with
  | none => none
  | some bs =>
    let hs := hardsOf cs 0
    bif chained bs hs && distinctD ops [] && allReadsOk all ops bs ops 0 then
      some ⟨mkDops bs hs ops cs 0, pick cs hs⟩
    else none

/-- the same value, to see -/
def sameV : Nat → Value → Value → Bool
  | 0, _, _ => false
  | f + 1, x, y => match x, y with
    | .bool a, .bool b => a == b
    | .int k a, .int k' b => kindEq k k' && decide (a = b)
    | .string a, .string b => bytesEq a.data.toList b.data.toList
    | .pointer none, .pointer none => true
    | .pointer (some a), .pointer (some b) => decide (a = b)
    | .slice none n c, .slice none m d => Nat.beq n m && Nat.beq c d
    | .slice (some a) n c, .slice (some b) m d => decide (a = b) && Nat.beq n m && Nat.beq c d
    | .map none, .map none => true
    | .map (some a), .map (some b) => Nat.beq a b
    | .nilFunc, .nilFunc => true
    | .nilIface, .nilIface => true
    | .func (.func a) xs us, .func (.func b) ys vs => Nat.beq a b && sameL f xs.toList ys.toList && sameL f us.toList vs.toList
    | .iface t a, .iface u b => Nat.beq t u && sameV f a b
    | .agg xs, .agg ys => sameL f xs.toList ys.toList
    | .tuple xs, .tuple ys => sameL f xs.toList ys.toList
    | _, _ => false
  where
  sameL (f : Nat) : List Value → List Value → Bool
    | [], [] => true
    | x :: xs, y :: ys => sameV f x y && sameL f xs ys
    | _, _ => false

def ph1 (p : Nat) : List Dop → T Value → S → Option (T Value × S)
  | [], g, s => some (g, s)
  | ⟨⟨r, dst, gd⟩, hard, lo, _⟩ :: l, g, s =>
    bif !hard && Nat.beq lo p then
      match gdT gd g with
      | none => none
      | some false => ph1 p l (putD g dst und) s
      | some true => match r with
        | .pu f => match f g with
          | some v => ph1 p l (putD g dst v) s
          | none => none
        | .rd f => match f g s with
          | some v => ph1 p l (putD g dst v) s
          | none => none
        | .al f => match f g with
          | some (o, mk) => ph1 p l (putD g dst (mk s.nx)) (s.push o)
          | none => none
        | .hd _ => none
    else ph1 p l g s
def sameD (g : T Value) (dst : Option Tmp) (v : Value) : Bool := match dst with | some d => sameV 60 v (ev g (.tmp d)) | none => true
/-- what is read stands as it was read -/
def ph2 (p : Nat) : List Dop → T Value → S → Bool
  | [], _, _ => true
  | ⟨⟨r, dst, gd⟩, _, lo, hi⟩ :: l, g, s =>
    (match r with
    | .rd f => bif Nat.ble lo p && Nat.ble p hi then
        match gdT gd g with
        | none => false
        | some false => sameD g dst und
        | some true => match f g s with
          | some v => sameD g dst v
          | none => false
      else true
    | _ => true) && ph2 p l g s
def phase (p : Nat) (l : List Dop) (g : T Value) (s : S) : Option (T Value × S) :=
  match ph1 p l g s with
  | some (g, s) => bif ph2 p l g s then some (g, s) else none
  | none => none

inductive DR where
  | fin (g : T Value) (s : S)
  | at_ (p : Nat) (hs : List Cl) (g : T Value) (s : S) (r : OR)      -- the head of hs is under way
  | bad (n : Nat)

def runDraw (ops : List Dop) : Nat → List Cl → T Value → S → DR
  | p, [], g, s => match phase p ops g s with
    | some (g, s) => .fin g s
    | none => .bad 310
  | p, ⟨r, dst, gd⟩ :: hs, g, s => match phase p ops g s with
    | none => .bad 311
    | some (g, s) => match gdT gd g with
      | none => .bad 312
      | some false => runDraw ops (Nat.succ p) hs (putD g dst und) s
      | some true => match r with
        | .hd f => match f g s with
          | .val v s => runDraw ops (Nat.succ p) hs (putD g dst v) s
          | r' => .at_ p (⟨r, dst, gd⟩ :: hs) g s r'
        | _ => .bad 313

/-! ### frames -/

inductive AItem where
  | code (c : Code)
  | inBlock (id : Nat)
  | inLoop (body : Code)
  | inScope (body : Code)
  | ops (all : Array Oper) (l : List Cl)      -- the head is under way
  | draw (all : Array Oper) (ops : List Dop) (p : Nat) (hs : List Cl)      -- the head of hs is under way
  | inRF (l : Nat)
  | endRF (l : Nat)
  | beginRound

inductive ADef where
  | call (f : FuncId) (captured args : List Value)
  | coll (b : Nat)

structure APan where
  t : TypeId
  v : Value
  recovered : Bool

inductive AMode where
  | run
  | returning
  | pan (chain : List APan)

structure Fr where
  fn : FuncId
  nt : Nat
  g : T Value
  todo : List AItem
  defers : List ADef
  mode : AMode
  isDef : Bool
  rnd : Option Nat

structure St where
  frs : List Fr
  s : S

inductive Res where
  | next (st : St)
  | idle (fr : Fr) (s : S)        -- the last frame has nothing left to do
  | stop (fr : Fr) (s : S)        -- the last frame has come to its end
  | upd (fr : Fr) (s : S) (r : Nat) (k x : Value)      -- a store into a hole is under way, in the last frame
  | bad (n : Nat)

structure FI where
  nt : Nat
  body : Code
  results : List ResultVar

def finfo (P : Program) (f : FuncId) : Option FI :=
  match P.funcs[f]? with
  | some fn => match fn.body with
    | some c => some ⟨fn.ntmps, c, fn.results.toList⟩
    | none => none
  | none => none

def enter (P : Program) (f : FuncId) (args : List Value) (isDef : Bool) : Option Fr :=
  match finfo P f with
  | some ⟨nt, c, _⟩ => bif Nat.ble args.length nt then some ⟨f, nt, T.ofList args 0 .leaf, [.code c], [], .run, isDef, none⟩ else none
  | none => none

/-- functions that are known whole: what they answer, of values without a place -/
abbrev Known := FuncId → Option (List Value → S → Option Value)

def exitA (id : Nat) : List AItem → Option (List AItem)
  | .inBlock i :: k => bif Nat.beq i id then some k else exitA id k
  | _ :: k => exitA id k
  | [] => none

def loadV (P : Program) (s : S) (t : TypeId) (b off : Nat) : Option Value :=
  bif aggB P t then
    match szOf P t with
    | some n => match s.load b off n with | some l => some (.agg l.toArray) | none => none
    | none => none
  else match P.underlying t with
    | some _ => s.cell b off
    | none => none

def resL (P : Program) (g : T Value) (s : S) : List ResultVar → Option (List Value)
  | [] => some []
  | .tmp t :: l => match resL P g s l with | some r => some (ev g (.tmp t) :: r) | none => none
  | .cell a t :: l => match ev g (.tmp a) with
    | .pointer (some p) => match loadV P s t p.block p.off, resL P g s l with
      | some v, some r => some (v :: r)
      | _, _ => none
    | _ => none
def one : List Value → Value
  | [v] => v
  | l => .tuple l.toArray
def resV (P : Program) (fn : FuncId) (g : T Value) (s : S) : Option Value :=
  match finfo P fn with
  | some ⟨_, _, rs⟩ => match resL P g s rs with | some l => some (one l) | none => none
  | none => none

/-- a frame goes on with what was answered -/
def finish (fr : Fr) (v : Value) : Option Fr :=
  match fr with
  | ⟨fn, nt, g, .ops all (c :: l) :: k, ds, m, d, r⟩ => some ⟨fn, nt, putD g c.dst v, .ops all l :: k, ds, m, d, r⟩
  | ⟨fn, nt, g, .draw all ops p (c :: hs) :: k, ds, m, d, r⟩ => some ⟨fn, nt, putD g c.dst v, .draw all ops (Nat.succ p) hs :: k, ds, m, d, r⟩
  | ⟨fn, nt, g, .inRF l :: k, ds, m, d, r⟩ => some ⟨fn, nt, g, .endRF l :: k, ds, m, d, r⟩
  | ⟨fn, nt, g, .beginRound :: k, ds, m, d, r⟩ => some ⟨fn, nt, g, k, ds, m, d, r⟩
  | _ => none

/-- what a frame's temporaries are, where a region of it was left by a panic -/
def clearD : List Dop → T Value → T Value
  | [], g => g
  | o :: l, g => clearD l (putD g o.cl.dst poi)
def clearG (todo : List AItem) (g : T Value) : T Value :=
  match todo with
  | .draw _ ops _ _ :: _ => clearD ops g
  | _ => g
def raise (fr : Fr) (ch : List APan) : Fr :=
  match fr with
  | ⟨fn, nt, g, todo, ds, .pan c, d, r⟩ => ⟨fn, nt, clearG todo g, [], ds, .pan (ch ++ c), d, r⟩
  | ⟨fn, nt, g, todo, ds, _, d, r⟩ => ⟨fn, nt, clearG todo g, [], ds, .pan ch, d, r⟩

def settleA : AMode → AMode
  | .pan (⟨_, _, true⟩ :: _) => .returning
  | m => m

/-- an operation of a frame was left under way -/
def app (P : Program) (K : Known) (fr : Fr) (cs : List Fr) (s : S) (r : OR) : Res :=
  match r with
  | .call f args => match K f with
    | some F => match F args s with
      | some v => match finish fr v with | some fr => .next ⟨fr :: cs, s⟩ | none => .bad 400
      | none => .bad 401
    | none => match enter P f args false with
      | some n => .next ⟨n :: fr :: cs, s⟩
      | none => .bad 402
  | .dfr f c a => match finish fr und with
    | some ⟨fn, nt, g, todo, ds, m, d, none⟩ => .next ⟨⟨fn, nt, g, todo, .call f c a :: ds, m, d, none⟩ :: cs, s⟩
    | _ => .bad 403
  | .rcv => match fr, cs with
    | ⟨_, _, _, _, _, _, true, none⟩, ⟨cf, cn, cg, ct, cds, .pan (⟨t, v, false⟩ :: older), cd, crd⟩ :: rest =>
      match finish fr (.iface t v) with
      | some fr => .next ⟨fr :: ⟨cf, cn, cg, ct, cds, .pan (⟨t, v, true⟩ :: older), cd, crd⟩ :: rest, s⟩
      | none => .bad 404
    | ⟨_, _, _, _, _, _, true, none⟩, ⟨_, _, _, _, _, .returning, _, _⟩ :: _ =>
      match finish fr .nilIface with | some fr => .next ⟨fr :: cs, s⟩ | none => .bad 405
    | _, _ => .bad 406
  | .pan t v => .next ⟨raise fr [⟨t, v, false⟩] :: cs, s⟩
  | .upd r k x => match cs with
    | [] => .upd fr s r k x
    | _ :: _ => .bad 408
  | .bad n => .bad n
  | _ => .bad 407

/-- a frame has answered -/
def retTo (isDef : Bool) (cs : List Fr) (v : Value) (s : S) : Res :=
  match cs with
  | [] => .bad 410
  | c :: rest => bif isDef then
      match c with
      | ⟨cf, cn, cg, ct, cds, m, cd, crd⟩ => .next ⟨⟨cf, cn, cg, ct, cds, settleA m, cd, crd⟩ :: rest, s⟩
    else match finish c v with
      | some c => .next ⟨c :: rest, s⟩
      | none => .bad 411

def region (P : Program) (nt : Nat) (all : Array Oper) : List Cl := mkCls P nt all all.toList

def goOps (P : Program) (K : Known) (fn : FuncId) (nt : Nat) (g : T Value) (all : Array Oper) (l : List Cl) (k : List AItem) (ds : List ADef) (d : Bool) (r : Option Nat)
    (cs : List Fr) (s : S) : Res :=
  match runOps l g s with
  | .fin g s => .next ⟨⟨fn, nt, g, k, ds, .run, d, r⟩ :: cs, s⟩
  | .at_ l g s o => app P K ⟨fn, nt, g, .ops all l :: k, ds, .run, d, r⟩ cs s o
  | .bad n => .bad n
def goDraw (P : Program) (K : Known) (fn : FuncId) (nt : Nat) (g : T Value) (all : Array Oper) (ops : List Dop) (p : Nat) (hs : List Cl) (k : List AItem) (ds : List ADef) (d : Bool) (r : Option Nat)
    (cs : List Fr) (s : S) : Res :=
  match runDraw ops p hs g s with
  | .fin g s => .next ⟨⟨fn, nt, g, k, ds, .run, d, r⟩ :: cs, s⟩
  | .at_ p hs g s o => app P K ⟨fn, nt, g, .draw all ops p hs :: k, ds, .run, d, r⟩ cs s o
  | .bad n => .bad n

def unwindA (P : Program) (fr : Fr) (cs : List Fr) (s : S) : Res :=
  match fr with
  | ⟨fn, nt, g, todo, .coll b :: ds, m, d, r⟩ => bif Nat.ble s.lo b then
      match s.h.get b with
      | some (.defd (some [])) => .next ⟨⟨fn, nt, g, todo, ds, m, d, r⟩ :: cs, s.put b (.defd none)⟩
      | _ => .bad 420
    else .bad 421
  | ⟨fn, nt, g, todo, .call f c a :: ds, m, d, r⟩ =>
    match enter P f (a ++ c) true with
    | some n => bif bodyOk P f then .next ⟨n :: ⟨fn, nt, g, todo, ds, m, d, r⟩ :: cs, s⟩ else .bad 425
    | none => .bad 422
  | ⟨fn, nt, g, todo, [], m, d, r⟩ =>
    match cs with
    | [] => .stop ⟨fn, nt, g, todo, [], m, d, r⟩ s
    | c :: rest => match m with
      | .pan ch => .next ⟨raise c ch :: rest, s⟩
      | .returning => match resV P fn g s with
        | some v => retTo d (c :: rest) v s
        | none => .bad 423
      | .run => .bad 424

def leaveA (fr : Fr) (cs : List Fr) (s : S) : Res :=
  match fr with
  | ⟨fn, nt, g, _, ds, _, d, none⟩ => .next ⟨⟨fn, nt, g, [], ds, .returning, d, none⟩ :: cs, s⟩
  | _ => .bad 430

def stepCode (P : Program) (K : Known) (fn : FuncId) (nt : Nat) (g : T Value) (c : Code) (k : List AItem) (ds : List ADef) (d : Bool) (r : Option Nat)
    (cs : List Fr) (s : S) : Res :=
  match c with
  | .seq a b => .next ⟨⟨fn, nt, g, .code a :: .code b :: k, ds, .run, d, r⟩ :: cs, s⟩
  | .region _ ops draw => bif draw then
      match planOf P nt ops with
      | some ⟨dops, hs⟩ => goDraw P K fn nt g ops dops 0 hs k ds d r cs s
      | none => .bad 440
    else goOps P K fn nt g ops (region P nt ops) k ds d r cs s
  | .cond x a b => match ev g x with
    | .bool true => .next ⟨⟨fn, nt, g, .code a :: k, ds, .run, d, r⟩ :: cs, s⟩
    | .bool false => .next ⟨⟨fn, nt, g, .code b :: k, ds, .run, d, r⟩ :: cs, s⟩
    | _ => .bad 441
  | .skip => .next ⟨⟨fn, nt, g, k, ds, .run, d, r⟩ :: cs, s⟩
  | .block id b => .next ⟨⟨fn, nt, g, .code b :: .inBlock id :: k, ds, .run, d, r⟩ :: cs, s⟩
  | .loop b => .next ⟨⟨fn, nt, g, .code b :: .inLoop b :: k, ds, .run, d, r⟩ :: cs, s⟩
  | .scope b => .next ⟨⟨fn, nt, g, .code b :: .inScope b :: k, ds, .run, d, r⟩ :: cs, s⟩
  | .exit id => match exitA id k with
    | some k => .next ⟨⟨fn, nt, g, k, ds, .run, d, r⟩ :: cs, s⟩
    | none => .bad 442
  | .ret => leaveA ⟨fn, nt, g, k, ds, .run, d, r⟩ cs s
  | .rangeFunc f ps asg body => match r with
    | some _ => .bad 443
    | none => match ev g f with
      | .func (.func fi) first captured => match enter P fi (first.toList ++ .func (.yield (Nat.succ s.nx)) #[] #[] :: captured.toList) false with
        | some n => bif bodyOk P fi && opdOk f then .next ⟨n :: ⟨fn, nt, g, .inRF (Nat.succ s.nx) :: k, .coll s.nx :: ds, .run, d, none⟩ :: cs,
            (s.push (.defd (some []))).push (.loop .ready none fn nt g ps asg body s.nx)⟩ else .bad 445
        | none => .bad 446
      | _ => .bad 447
  | _ => .bad 448

def step (P : Program) (K : Known) (st : St) : Res :=
  match st with
  | ⟨[], _⟩ => .bad 450
  | ⟨⟨fn, nt, g, todo, ds, .run, d, r⟩ :: cs, s⟩ =>
    match todo with
    | [] => match cs with
      | [] => .idle ⟨fn, nt, g, [], ds, .run, d, r⟩ s
      | _ :: _ => leaveA ⟨fn, nt, g, [], ds, .run, d, r⟩ cs s
    | .code c :: k => stepCode P K fn nt g c k ds d r cs s
    | .inBlock _ :: k => .next ⟨⟨fn, nt, g, k, ds, .run, d, r⟩ :: cs, s⟩
    | .inScope _ :: k => .next ⟨⟨fn, nt, g, k, ds, .run, d, r⟩ :: cs, s⟩
    | .inLoop b :: k => .next ⟨⟨fn, nt, g, .code b :: .inLoop b :: k, ds, .run, d, r⟩ :: cs, s⟩
    | .ops all l :: k => goOps P K fn nt g all l k ds d r cs s
    | .draw all ops p hs :: k => goDraw P K fn nt g all ops p hs k ds d r cs s
    | .endRF l :: k => bif Nat.ble s.lo l then
        match s.h.get l with
        | some (.loop .ready none f n tm ps asg body de) => .next ⟨⟨fn, nt, g, k, ds, .run, d, r⟩ :: cs, s.put l (.loop .exhausted none f n tm ps asg body de)⟩
        | _ => .bad 451
      else .bad 452
    | .inRF _ :: _ => .bad 453
    | .beginRound :: _ => .bad 454
  | ⟨fr :: cs, s⟩ => unwindA P fr cs s

end Go.AM
