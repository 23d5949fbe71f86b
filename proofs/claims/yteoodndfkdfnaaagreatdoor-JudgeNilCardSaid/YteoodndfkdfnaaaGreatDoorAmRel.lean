/- How the abstract machine's state stands to the model's. -/
import Derived.Test.YteoodndfkdfnaaaGreatDoorAmLoop
import Derived.Test.YteoodndfkdfnaaaGreatDoorAmTree
import Derived.Calls
namespace Go.AM

/-- where a row of cells lies: block, first cell, the block's size -/
structure Loc where
  blk : Nat
  base : Nat
  top : Nat

abbrev Inj := Nat → Option Loc

mutual
inductive VRel (ι : Inj) : Value → Value → Prop
  | poi (v : Value) : VRel ι (.chan none) v
  | bool (b : Bool) : VRel ι (.bool b) (.bool b)
  | int (k : IntKind) (n : Int) : VRel ι (.int k n) (.int k n)
  | string (s : ByteArray) : VRel ι (.string s) (.string s)
  | nilptr : VRel ι (.pointer none) (.pointer none)
  | nilslice (n c : Nat) : VRel ι (.slice none n c) (.slice none n c)
  | nilmap : VRel ι (.map none) (.map none)
  | nilFunc : VRel ι .nilFunc .nilFunc
  | nilIface : VRel ι .nilIface .nilIface
  | ptr {b off : Nat} {sp : Option Nat} {l : Loc} : ι b = some l → VRel ι (.pointer (some ⟨b, off, sp⟩)) (.pointer (some ⟨l.blk, l.base + off, none⟩))
  | slice {b off : Nat} {sp : Option Nat} {n c : Nat} {l : Loc} {off' c' : Nat} : ι b = some l → n ≤ c → c ≤ c' → (sp = none → c' = c) →
      (∀ z, sp = some z → c' ≠ 0 → l.base + off + c' * z ≤ l.top) → (c' ≠ 0 → off' = l.base + off) →
      VRel ι (.slice (some ⟨b, off, sp⟩) n c) (.slice (some ⟨l.blk, off', none⟩) n c')
  | map {b : Nat} {l : Loc} : ι b = some l → VRel ι (.map (some b)) (.map (some l.blk))
  | func {f : FuncId} {xs ys xs' ys' : Array Value} : VRelL ι xs.toList xs'.toList → VRelL ι ys.toList ys'.toList →
      VRel ι (.func (.func f) xs ys) (.func (.func f) xs' ys')
  | yield {b : Nat} {l : Loc} : ι b = some l → VRel ι (.func (.yield b) #[] #[]) (.func (.yield l.blk) #[] #[])
  | iface {t : TypeId} {v v' : Value} : VRel ι v v' → VRel ι (.iface t v) (.iface t v')
  | agg {xs xs' : Array Value} : VRelL ι xs.toList xs'.toList → VRel ι (.agg xs) (.agg xs')
  | tuple {xs xs' : Array Value} : VRelL ι xs.toList xs'.toList → VRel ι (.tuple xs) (.tuple xs')
inductive VRelL (ι : Inj) : List Value → List Value → Prop
  | nil : VRelL ι [] []
  | cons {v v' : Value} {l l' : List Value} : VRel ι v v' → VRelL ι l l' → VRelL ι (v :: l) (v' :: l')
end

def Ext (ι ι' : Inj) : Prop := ∀ id l, ι id = some l → ι' id = some l
theorem Ext.refl (ι : Inj) : Ext ι ι := fun _ _ h => h
theorem Ext.trans {a b c : Inj} (h : Ext a b) (h' : Ext b c) : Ext a c := fun _ _ x => h' _ _ (h _ _ x)

mutual
theorem VRel.mono {ι ι' : Inj} (h : Ext ι ι') {v v' : Value} (r : VRel ι v v') : VRel ι' v v' := by
  cases r with
  | poi => exact .poi _
  | bool => exact .bool _
  | int => exact .int _ _
  | string => exact .string _
  | nilptr => exact .nilptr
  | nilslice => exact .nilslice _ _
  | nilmap => exact .nilmap
  | nilFunc => exact .nilFunc
  | nilIface => exact .nilIface
  | ptr a => exact .ptr (h _ _ a)
  | slice a b c d e f => exact .slice (h _ _ a) b c d e f
  | map a => exact .map (h _ _ a)
  | func a b => exact .func (VRelL.mono h a) (VRelL.mono h b)
  | yield a => exact .yield (h _ _ a)
  | iface a => exact .iface (VRel.mono h a)
  | agg a => exact .agg (VRelL.mono h a)
  | tuple a => exact .tuple (VRelL.mono h a)
theorem VRelL.mono {ι ι' : Inj} (h : Ext ι ι') {v v' : List Value} (r : VRelL ι v v') : VRelL ι' v v' := by
  cases r with
  | nil => exact .nil
  | cons a b => exact .cons (VRel.mono h a) (VRelL.mono h b)
end

theorem VRelL.length {ι : Inj} : ∀ {l l' : List Value}, VRelL ι l l' → l.length = l'.length
  | _, _, .nil => rfl
  | _, _, .cons _ h => by simp [h.length]
theorem VRelL.append {ι : Inj} : ∀ {a a' b b' : List Value}, VRelL ι a a' → VRelL ι b b' → VRelL ι (a ++ b) (a' ++ b')
  | _, _, _, _, .nil, h => h
  | _, _, _, _, .cons x y, h => .cons x (y.append h)
theorem VRelL.take {ι : Inj} : ∀ {a a' : List Value} (n : Nat), VRelL ι a a' → VRelL ι (a.take n) (a'.take n)
  | _, _, _, .nil => by simp; exact .nil
  | _, _, 0, .cons _ _ => .nil
  | _, _, n + 1, .cons x y => .cons x (y.take n)
theorem VRelL.drop {ι : Inj} : ∀ {a a' : List Value} (n : Nat), VRelL ι a a' → VRelL ι (a.drop n) (a'.drop n)
  | _, _, _, .nil => by simp; exact .nil
  | _, _, 0, .cons x y => .cons x y
  | _, _, n + 1, .cons _ y => y.drop n
theorem VRelL.get {ι : Inj} : ∀ {a a' : List Value} {i : Nat} {v : Value}, VRelL ι a a' → a[i]? = some v → ∃ v', a'[i]? = some v' ∧ VRel ι v v'
  | _, _, _, _, .nil, h => by simp at h
  | _, _, 0, _, .cons x _, h => by simp at h; subst h; exact ⟨_, rfl, x⟩
  | _, _, i + 1, _, .cons _ y, h => by simp at h; simpa using y.get h
theorem VRelL.get' {ι : Inj} : ∀ {a a' : List Value} {i : Nat} {v' : Value}, VRelL ι a a' → a'[i]? = some v' → ∃ v, a[i]? = some v ∧ VRel ι v v'
  | _, _, _, _, .nil, h => by simp at h
  | _, _, 0, _, .cons x _, h => by simp at h; subst h; exact ⟨_, rfl, x⟩
  | _, _, i + 1, _, .cons _ y, h => by simp at h; simpa using y.get' h
theorem VRelL.of_get {ι : Inj} : ∀ {a a' : List Value}, a.length = a'.length → (∀ (i : Nat) v v', a[i]? = some v → a'[i]? = some v' → VRel ι v v') → VRelL ι a a'
  | [], [], _, _ => .nil
  | v :: l, v' :: l', h, k => .cons (k 0 v v' rfl rfl) (VRelL.of_get (by simpa using h) fun i x x' a b => k (i + 1) x x' (by simpa using a) (by simpa using b))
  | [], _ :: _, h, _ => by simp at h
  | _ :: _, [], h, _ => by simp at h

/-- values that hold no place stand for themselves -/
theorem VRel.plain0 {ι : Inj} {v : Value} (h : plain0 v = true) : VRel ι v v := by
  cases v with
  | bool b => exact .bool b
  | int k n => exact .int k n
  | string s => exact .string s
  | pointer a => cases a with | none => exact .nilptr | some a => simp [AM.plain0] at h
  | slice a n c => cases a with | none => exact .nilslice n c | some a => simp [AM.plain0] at h
  | map r => cases r with | none => exact .nilmap | some r => simp [AM.plain0] at h
  | nilFunc => exact .nilFunc
  | nilIface => exact .nilIface
  | _ => simp [AM.plain0] at h
theorem VRelL.plainL {ι : Inj} : ∀ {l : List Value}, plainL l = true → VRelL ι l l
  | [], _ => .nil
  | v :: l, h => by simp [AM.plainL] at h; exact .cons (.plain0 h.1) (.plainL h.2)
theorem VRel.plainV {ι : Inj} {v : Value} (h : plainV v = true) : VRel ι v v := by
  cases v with
  | agg cs => exact .agg (.plainL (by simpa [AM.plainV] using h))
  | _ => exact .plain0 (by simpa [AM.plainV] using h)

/-! ### temporaries -/

def TmpRel (ι : Inj) (g : T Value) (tmps : Array Value) : Prop := ∀ t, VRel ι (ev g (.tmp t)) (tmps.getD t undef)

theorem TmpRel.mono {ι ι' : Inj} (h : Ext ι ι') {g : T Value} {tmps : Array Value} (r : TmpRel ι g tmps) : TmpRel ι' g tmps := fun t => (r t).mono h

theorem ev_set (g : T Value) (d t : Nat) (v : Value) : ev (g.set d v) (.tmp t) = if t = d then v else ev g (.tmp t) := by
  by_cases h : t = d
  · subst h; simp [ev, T.get_set]
  · simp [ev, T.get_set, h]

theorem TmpRel.set {ι : Inj} {g : T Value} {tmps : Array Value} (r : TmpRel ι g tmps) {d : Nat} {v v' : Value} (hd : d < tmps.size) (h : VRel ι v v') :
    TmpRel ι (g.set d v) (tmps.setIfInBounds d v') := by
  intro t
  rw [ev_set]
  by_cases e : t = d
  · subst e; simp [Array.getD, hd]; exact h
  · simp only [e, if_false]
    have : (tmps.setIfInBounds d v').getD t undef = tmps.getD t undef := by
      by_cases ht : t < tmps.size
      · simp [Array.getD, ht, Array.getElem_setIfInBounds, Ne.symm e]
      · simp [Array.getD, ht]
    rw [this]; exact r t

/-! ### defers, modes -/

inductive DefRel (ι : Inj) : ADef → Deferred → Prop
  | call {f : FuncId} {cs as : List Value} {cs' as' : Array Value} : VRelL ι cs cs'.toList → VRelL ι as as'.toList →
      DefRel ι (.call f cs as) { target := .fn (.func f) cs', args := as' }
  | coll {b : Nat} {l : Loc} : ι b = some l → DefRel ι (.coll b) { target := .collected l.blk, args := #[] }
inductive DefsRel (ι : Inj) : List ADef → List Deferred → Prop
  | nil : DefsRel ι [] []
  | cons {d : ADef} {d' : Deferred} {l : List ADef} {l' : List Deferred} : DefRel ι d d' → DefsRel ι l l' → DefsRel ι (d :: l) (d' :: l')
theorem DefRel.mono {ι ι' : Inj} (h : Ext ι ι') {d : ADef} {d' : Deferred} (r : DefRel ι d d') : DefRel ι' d d' := by
  cases r with
  | call a b => exact .call (a.mono h) (b.mono h)
  | coll a => exact .coll (h _ _ a)
theorem DefsRel.mono {ι ι' : Inj} (h : Ext ι ι') : ∀ {d : List ADef} {d' : List Deferred}, DefsRel ι d d' → DefsRel ι' d d'
  | _, _, .nil => .nil
  | _, _, .cons a b => .cons (a.mono h) (b.mono h)

inductive PanRel (ι : Inj) : List APan → List PanicEntry → Prop
  | nil : PanRel ι [] []
  | cons {t : TypeId} {v v' : Value} {b : Bool} {l : List APan} {l' : List PanicEntry} : VRel ι v v' → PanRel ι l l' →
      PanRel ι (⟨t, v, b⟩ :: l) ({ v := .iface t v', recovered := b, goexit := false } :: l')
theorem PanRel.mono {ι ι' : Inj} (h : Ext ι ι') : ∀ {d : List APan} {d' : List PanicEntry}, PanRel ι d d' → PanRel ι' d d'
  | _, _, .nil => .nil
  | _, _, .cons a b => .cons (a.mono h) (b.mono h)
theorem PanRel.append {ι : Inj} : ∀ {a b : List APan} {a' b' : List PanicEntry}, PanRel ι a a' → PanRel ι b b' → PanRel ι (a ++ b) (a' ++ b')
  | _, _, _, _, .nil, h => h
  | _, _, _, _, .cons x y, h => .cons x (y.append h)
inductive ModeRel (ι : Inj) : AMode → FrameMode → Prop
  | run : ModeRel ι .run .run
  | returning : ModeRel ι .returning .returning
  | pan {ch : List APan} {ch' : List PanicEntry} : PanRel ι ch ch' → ModeRel ι (.pan ch) (.panicking ch')
theorem ModeRel.mono {ι ι' : Inj} (h : Ext ι ι') {d : AMode} {d' : FrameMode} (r : ModeRel ι d d') : ModeRel ι' d d' := by
  cases r with
  | run => exact .run
  | returning => exact .returning
  | pan a => exact .pan (a.mono h)

/-! ### the heap -/

/-- keys that surely differ -/
def KeyNe : Value → Value → Prop
  | .int k m, .int k' n => k = k' ∧ m ≠ n
  | .string a, .string b => a ≠ b
  | _, _ => False

inductive EsRel (ι : Inj) : List (Value × Value) → List MapEntry → Prop
  | nil : EsRel ι [] []
  | cons {k v : Value} {e : MapEntry} {l : List (Value × Value)} {l' : List MapEntry} : VRel ι k e.key → VRel ι v e.val → EsRel ι l l' → EsRel ι ((k, v) :: l) (e :: l')
theorem EsRel.mono {ι ι' : Inj} (h : Ext ι ι') : ∀ {d : List (Value × Value)} {d' : List MapEntry}, EsRel ι d d' → EsRel ι' d d'
  | _, _, .nil => .nil
  | _, _, .cons a b c => .cons (a.mono h) (b.mono h) (c.mono h)

inductive ORel (P : Program) (ι : Inj) (l : Loc) : AObj → Obj → Prop
  | dead {c : T Value} {n : Nat} {e : TypeId} {p : Option Nat} {st : Nat} (o : Obj) : 2 ≤ st → ORel P ι l (.blk ⟨c, n, e, p, st⟩) o
  | blk {c : T Value} {n : Nat} {e : TypeId} {p : Option Nat} {st : Nat} {cells : Array Value} {fr : Nat × Nat} :
      cells.size = l.top → l.base + n ≤ l.top →
      (∀ i v, c.get i = some v → i < n → ∃ v', cells[l.base + i]? = some v' ∧ VRel ι v v') →
      (fr = (0, 0) ∨ fr = (l.top, l.top + 1)) →
      ORel P ι l (.blk ⟨c, n, e, p, st⟩) (.cells cells e fr)
  | map {es : List (Value × Value)} {clk : Nat} {es' : Array MapEntry} {lst : List MapEntry} : lst.Perm es'.toList → EsRel ι es lst →
      es.Pairwise (fun a b => KeyNe a.1 b.1) → (∀ e ∈ es'.toList, e.born < clk) → (es'.toList.map (·.born)).Nodup → ORel P ι l (.map es clk) (.map es' clk)
  | hole {es' : Array MapEntry} {clk : Nat} : ORel P ι l .hole (.map es' clk)
  | iter {m : Nat} {lm : Loc} {since : Nat} : l.base = 0 → ι m = some lm → ORel P ι l (.iter (some m) since) (.mapIter (some lm.blk) since #[] since)
  | loop {state : LoopState} {pending : Option Code} {fn : FuncId} {nt : Nat} {g : T Value} {ps : Array Tmp} {asg body : Code} {de : Nat} {tmps : Array Value} {ld : Loc} :
      tmps.size = nt → TmpRel ι g tmps → ι de = some ld →
      ORel P ι l (.loop state pending fn nt g ps asg body de) (.loop { state, pending, fn, tmps, params := ps, assign := asg, body, defers := ld.blk })
  | defS : ORel P ι l (.defd (some [])) (.deferred (some []))
  | defN : ORel P ι l (.defd none) (.deferred none)

theorem ORel.mono {P : Program} {ι ι' : Inj} (h : Ext ι ι') {l : Loc} {o : AObj} {o' : Obj} (r : ORel P ι l o o') : ORel P ι' l o o' := by
  cases r with
  | dead _ a => exact .dead _ a
  | blk a b d e => exact .blk a b (fun i v hi hn => let ⟨v', x, y⟩ := d i v hi hn; ⟨v', x, y.mono h⟩) e
  | map a b c d e => exact .map a (b.mono h) c d e
  | hole => exact .hole
  | iter a b => exact .iter a (h _ _ b)
  | loop a b c => exact .loop a (b.mono h) (h _ _ c)
  | defS => exact .defS
  | defN => exact .defN

def Dead : AObj → Prop
  | .blk b => 2 ≤ b.st
  | _ => False
def Par (o : AObj) (p : Nat) : Prop :=
  match o with
  | .blk b => b.par = some p
  | _ => False
def NotHole : AObj → Prop
  | .hole => False
  | .blk b => b.st < 2
  | _ => True

structure SRel (P : Program) (ι : Inj) (s : S) (w : World) : Prop where
  obj : ∀ id l o, ι id = some l → s.h.get id = some o → ∃ o', w.heap[l.blk]? = some o' ∧ ORel P ι l o o'
  fresh : ∀ id, s.nx ≤ id → ι id = none
  bound : ∀ id l, ι id = some l → l.blk < w.heap.size
  alias : ∀ id1 id2 l1 l2 o1 o2, id1 ≠ id2 → ι id1 = some l1 → ι id2 = some l2 → l1.blk = l2.blk → s.h.get id1 = some o1 → s.h.get id2 = some o2 →
    Dead o1 ∨ Dead o2 ∨ Par o1 id2 ∨ Par o2 id1
  par : ∀ id o p, s.h.get id = some o → ι id ≠ none → ¬ Dead o → Par o p → ι p ≠ none ∧ ∀ o', s.h.get p = some o' → ∃ b : Blk, o' = .blk b ∧ b.st ≠ 0

def Owned (ι : Inj) (s : S) (b : Nat) : Prop := ∃ id l o, ι id = some l ∧ l.blk = b ∧ s.h.get id = some o ∧ NotHole o

/-- the same, of those that may be written -/
def OwnedL (ι : Inj) (s : S) (b : Nat) : Prop := ∃ id l o, s.lo ≤ id ∧ ι id = some l ∧ l.blk = b ∧ s.h.get id = some o ∧ NotHole o

/-- what a step leaves as it was -/
structure Fm (hb : Nat) (ι : Inj) (s : S) (w : World) (ι' : Inj) (s' : S) (w' : World) : Prop where
  ext : Ext ι ι'
  keep : ∀ id, id < hb → ι id = none → ι' id = none ∧ s'.h.get id = s.h.get id
  new : ∀ id l, ι id = none → ι' id = some l → w.heap.size ≤ l.blk ∨ OwnedL ι s l.blk
  heap : ∀ b, b < w.heap.size → ¬ Owned ι s b → w'.heap[b]? = w.heap[b]?
  own : ∀ b, b < w.heap.size → Owned ι' s' b → Owned ι s b
  ownL : ∀ b, b < w.heap.size → OwnedL ι' s' b → OwnedL ι s b
  absent : ∀ id, id < s.nx → s.h.get id = none → s'.h.get id = none
  low : ∀ id, id < s.lo → s'.h.get id = s.h.get id
  lo : s'.lo = s.lo
  nx : s.nx ≤ s'.nx
  size : w.heap.size ≤ w'.heap.size
  os : w'.os = w.os
  out : w'.output = w.output
  tape : w'.tape = w.tape

theorem Fm.refl (hb : Nat) (ι : Inj) (s : S) (w : World) : Fm hb ι s w ι s w :=
  ⟨Ext.refl _, fun _ _ h => ⟨h, rfl⟩, fun _ _ h h' => (by rw [h] at h'; cases h'), fun _ _ _ => rfl, fun _ _ h => h, fun _ _ h => h, fun _ _ h => h, fun _ _ => rfl, rfl, Nat.le_refl _, Nat.le_refl _, rfl, rfl, rfl⟩

theorem Fm.trans {hb : Nat} {ι ι' ι'' : Inj} {s s' s'' : S} {w w' w'' : World} (h : Fm hb ι s w ι' s' w') (k : Fm hb ι' s' w' ι'' s'' w'') :
    Fm hb ι s w ι'' s'' w'' where
  ext := h.ext.trans k.ext
  keep := fun id hi hn => let a := h.keep id hi hn; let b := k.keep id hi a.1; ⟨b.1, b.2.trans a.2⟩
  new := fun id l hn hs => by
    cases h' : ι' id with
    | some l' => rw [k.ext _ _ h'] at hs; cases hs; exact h.new id _ hn h'
    | none =>
      rcases k.new id l h' hs with a | a
      · exact .inl (Nat.le_trans h.size a)
      · rcases Nat.lt_or_ge l.blk w.heap.size with b | b
        · exact .inr (h.ownL _ b a)
        · exact .inl b
  heap := fun b hb' ho => by
    rw [k.heap b (Nat.lt_of_lt_of_le hb' h.size) (fun x => ho (h.own b hb' x)), h.heap b hb' ho]
  own := fun b hb' ho => h.own b hb' (k.own b (Nat.lt_of_lt_of_le hb' h.size) ho)
  ownL := fun b hb' ho => h.ownL b hb' (k.ownL b (Nat.lt_of_lt_of_le hb' h.size) ho)
  absent := fun id hi hg => k.absent id (Nat.lt_of_lt_of_le hi h.nx) (h.absent id hi hg)
  low := fun id hi => by rw [k.low id (by rw [h.lo]; exact hi), h.low id hi]
  lo := k.lo.trans h.lo
  nx := Nat.le_trans h.nx k.nx
  size := Nat.le_trans h.size k.size
  os := k.os.trans h.os
  out := k.out.trans h.out
  tape := k.tape.trans h.tape

theorem Fm.weaken {hb hb' : Nat} {ι ι' : Inj} {s s' : S} {w w' : World} (h : Fm hb ι s w ι' s' w') (hle : hb' ≤ hb) : Fm hb' ι s w ι' s' w' :=
  { h with keep := fun id hi hn => h.keep id (Nat.lt_of_lt_of_le hi hle) hn }

end Go.AM
