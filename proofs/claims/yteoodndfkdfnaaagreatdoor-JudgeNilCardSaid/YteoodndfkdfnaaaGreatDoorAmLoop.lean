/- The abstract machine: loops over maps whose rounds do not see one another. -/
import Derived.Test.YteoodndfkdfnaaaGreatDoorAmStep
namespace Go.AM

structure Pat where
  it : Tmp
  tn : Tmp
  tok : Tmp
  te : Tmp
  all : Array Oper
  ops : List Oper
  rest : Code
  id2 : Nat

def noGuard (o : Oper) : Bool := match o.guard with | none => true | some _ => false
/-- the loop over a map: 'next', 'extract', the way out, the round, which begins with 'entry' -/
def patOf (c : Code) (id : Nat) : Option Pat :=
  match c with
  | .seq (.region _ ops1 false) (.seq (.cond (.tmp tok) .skip (.exit id')) (.block id2 (.seq (.region _ ops2 false) rest))) =>
    match ops1.toList, ops2.toList with
    | [⟨some tn, .next (.tmp it) false, _, _, _, none⟩, ⟨some tok', .extract (.tmp tn') 0, _, _, _, none⟩], ⟨some te, .entry (.tmp it'), _, _, _, none⟩ :: ops =>
      bif Nat.beq id id' && Nat.beq tok tok' && Nat.beq tn tn' && Nat.beq it it' && !Nat.beq it tn && !Nat.beq it tok && !Nat.beq it te && !Nat.beq tn tok then
        some ⟨it, tn, tok, te, ops2, ops, rest, id2⟩ else none
    | _, _ => none
  | _ => none

def dstsL : List Oper → List Tmp
  | [] => []
  | o :: l => match o.dst with | some d => d :: dstsL l | none => dstsL l
def dstsC : Code → List Tmp
  | .region _ ops _ => dstsL ops.toList
  | .seq a b => dstsC a ++ dstsC b
  | .cond _ a b => dstsC a ++ dstsC b
  | .block _ c => dstsC c
  | .loop c => dstsC c
  | .scope c => dstsC c
  | .rangeFunc _ _ a b => dstsC a ++ dstsC b
  | _ => []
def clearT : List Tmp → T Value → T Value
  | [], g => g
  | t :: l, g => clearT l (g.set t poi)

/-- until the last frame has nothing left, or a store into a hole -/
def runB (P : Program) (K : Known) : Nat → St → Res
  | 0, _ => .bad 500
  | n + 1, st => match step P K st with
    | .next st => runB P K n st
    | r => r

def isPoi : Value → Bool
  | .chan none => true
  | _ => false
/-- below n all temporaries are as they were, or nothing was told of them -/
def keptT (g0 g1 : T Value) : Nat → Bool
  | 0 => true
  | t + 1 => (isPoi (ev g0 (.tmp t)) || sameV 60 (ev g0 (.tmp t)) (ev g1 (.tmp t))) && keptT g0 g1 t

def startG (p : Pat) (g0 : T Value) (k v : Value) : T Value := ((g0.set p.tn (.tuple #[.bool true, k, v])).set p.tok (.bool true)).set p.te (.tuple #[k, v])
def startFr (P : Program) (fn nt : Nat) (p : Pat) (g0 : T Value) (k v : Value) : Fr :=
  ⟨fn, nt, startG p g0 k v, [.ops p.all (mkCls P nt p.all p.ops), .code p.rest], [], .run, false, none⟩

/-- what one round does: its own blocks lie from nx on; what it stores; the next number -/
def round1 (P : Program) (K : Known) (fn nt : Nat) (g0 : T Value) (p : Pat) (h0 : T AObj) (nx m0 : Nat) (k v : Value) : Option (T AObj × Nat × Value × Value) :=
  match runB P K 2000 ⟨[startFr P fn nt p g0 k v], ⟨h0, nx, nx⟩⟩ with
  | .upd fr s r k x => bif Nat.beq r m0 then
      match finish fr und with
      | some fr => match runB P K 2000 ⟨[fr], s⟩ with
        | .idle ⟨_, _, g1, _, [], _, _, _⟩ s2 => bif keptT g0 g1 nt && Nat.ble s.nx s2.nx then some (s2.h, s2.nx, k, x) else none
        | _ => none
      | none => none
    else none
  | _ => none

def copyR (src : T AObj) : Nat → Nat → T AObj → T AObj
  | 0, _, h => h
  | n + 1, i, h => copyR src n (Nat.succ i) (T.setF (Nat.succ i) h i (src.get i))

/-- all rounds: what is stored, in turn; the blocks -/
def rounds (P : Program) (K : Known) (fn nt : Nat) (g0 : T Value) (p : Pat) (h0 : T AObj) (m0 : Nat) (kk : KeyKind) :
    List (Value × Value) → Nat → List (Value × Value) → T AObj → Option (Nat × List (Value × Value) × T AObj)
  | [], nx, es, h => some (nx, es, h)
  | (k, v) :: l, nx, es, h => match round1 P K fn nt g0 p h0 nx m0 k v with
    | none => none
    | some (h1, nx1, kx, x) => bif Nat.ble nx nx1 && keyOk kk kx then match putK kk kx x es with
      | some (true, es) => rounds P K fn nt g0 p h0 m0 kk l nx1 es (copyR h1 (Nat.sub nx1 nx) nx h)
      | _ => none
      else none

/-- which map the rounds store into, by trying one: the operand of the last store into a map -/
def updTmp : Code → Option (Tmp × TypeId)
  | .region _ ops _ => match ops.toList.getLast? with
    | some ⟨_, .mapUpdate t (.tmp m) _ _, _, _, _, _⟩ => some (m, t)
    | _ => none
  | .seq _ b => updTmp b
  | _ => none
/-- the temporary that a bare move in the last region hands on -/
def srcTmp : Code → Tmp → Tmp
  | .region _ ops _, t => match ops.toList.find? (fun o => decide (o.dst = some t)) with
    | some ⟨_, .move (.tmp m), _, _, _, _⟩ => m
    | _ => t
  | .seq _ b, t => srcTmp b t
  | _, t => t

/-- what the rounds see of the heap: not the iterator, not the two maps -/
def innerH (h : T AObj) (r m m0 : Nat) : T AObj := ((T.setF (Nat.succ r) h r none).set m .hole).set m0 .hole

def mapLoop (P : Program) (K : Known) (fn nt : Nat) (g : T Value) (p : Pat) (s : S) : Option (T Value × S) :=
  let g0 := clearT (p.tn :: p.tok :: p.te :: (dstsL p.ops ++ dstsC p.rest)) g
  match ev g0 (.tmp p.it), updTmp p.rest with
  | .pointer (some ⟨r, 0, _⟩), some (mt, ty) =>
    match ev g0 (.tmp (srcTmp p.rest mt)), P.underlying ty with
    | .map (some m0), some (.map kt _) =>
      match s.h.get r, s.h.get m0, keyKind P kt with
      | some (.iter (some m) c), some (.map es0 c0), some kk =>
        match s.h.get m with
        | some (.map es cm) =>
          bif Nat.beq c cm && !Nat.beq m m0 && Nat.ble s.lo m0 && Nat.ble s.lo r && Nat.blt p.tn nt && Nat.blt p.tok nt && Nat.blt p.te nt then
            match rounds P K fn nt g0 p (innerH s.h r m m0) m0 kk es s.nx es0 s.h with
            | some (nx, es', h) => some (g0.set p.tok (.bool false), ⟨(T.setF (Nat.succ r) h r none).set m0 (.map es' (c0 + es.length)), nx, s.lo⟩)
            | none => none
          else none
        | _ => none
      | _, _, _ => none
    | _, _ => none
  | _, _ => none

def stepM (P : Program) (K : Known) (st : St) : Res :=
  match st with
  | ⟨⟨fn, nt, g, .code (.loop c) :: .inBlock id :: k, ds, .run, d, r⟩ :: cs, s⟩ =>
    match patOf c id with
    | some p => match mapLoop P K fn nt g p s with
      | some (g, s) => .next ⟨⟨fn, nt, g, k, ds, .run, d, r⟩ :: cs, s⟩
      | none => step P K st
    | none => step P K st
  | _ => step P K st

def runM (P : Program) (K : Known) : Nat → St → Res
  | 0, st => .next st
  | n + 1, st => match stepM P K st with
    | .next st => runM P K n st
    | r => r

/-- a run from a function's begin, which answers true -/
def answersTrue (P : Program) (K : Known) (f : FuncId) (n : Nat) : Bool :=
  match enter P f [] false with
  | some fr => match runM P K n ⟨[fr], ⟨.leaf, 0, 0⟩⟩ with
    | .stop ⟨fn, _, g, _, [], .returning, _, _⟩ s => match resV P fn g s with
      | some (.bool b) => b
      | _ => false
    | _ => false
  | none => false

end Go.AM
