/- Frames side by side. -/
import Derived.Test.YteoodndfkdfnaaaGreatDoorAmDraw3
namespace Go.AM
variable {P : Program}

inductive ItRel (P : Program) (nt : Nat) (ι : Inj) : AItem → Item → Prop
  | code (c : Code) : ItRel P nt ι (.code c) (.code c)
  | inBlock (id : Nat) : ItRel P nt ι (.inBlock id) (.inBlock id)
  | inLoop (c : Code) : ItRel P nt ι (.inLoop c) (.inLoop c)
  | inScope (c : Code) : ItRel P nt ι (.inScope c) (.inScope c)
  | ops (all : Array Oper) (j : Nat) : j ≤ all.size → ItRel P nt ι (.ops all (mkCls P nt all (all.toList.drop j))) (.inRegion all (List.range' j (all.size - j)))
  | inRF {l : Nat} {b : Loc} : ι l = some b → ItRel P nt ι (.inRF l) (.inRangeFunc b.blk)
  | endRF {l : Nat} {b : Loc} : ι l = some b → ItRel P nt ι (.endRF l) (.endRangeFunc b.blk)
theorem ItRel.mono {nt : Nat} {ι ι' : Inj} (h : Ext ι ι') {a : AItem} {b : Item} (r : ItRel P nt ι a b) : ItRel P nt ι' a b := by
  cases r with
  | code c => exact .code c
  | inBlock c => exact .inBlock c
  | inLoop c => exact .inLoop c
  | inScope c => exact .inScope c
  | ops a j h => exact .ops a j h
  | inRF x => exact .inRF (h _ _ x)
  | endRF x => exact .endRF (h _ _ x)

inductive ItsRel (P : Program) (nt : Nat) (ι : Inj) (K : List Item) : List AItem → List Item → Prop
  | nil : ItsRel P nt ι K [] K
  | cons {a : AItem} {b : Item} {l : List AItem} {l' : List Item} : ItRel P nt ι a b → ItsRel P nt ι K l l' → ItsRel P nt ι K (a :: l) (b :: l')
theorem ItsRel.mono {nt : Nat} {ι ι' : Inj} {K : List Item} (h : Ext ι ι') : ∀ {a : List AItem} {b : List Item}, ItsRel P nt ι K a b → ItsRel P nt ι' K a b
  | _, _, .nil => .nil
  | _, _, .cons x y => .cons (x.mono h) (y.mono h)

theorem exit_rel {nt : Nat} {ι : Inj} {K : List Item} {id : Nat} : ∀ {a : List AItem} {b : List Item}, ItsRel P nt ι K a b → ∀ a', exitA id a = some a' → ∃ b', exitTo id b = some b' ∧ ItsRel P nt ι K a' b'
  | _, _, .nil, a', h => by simp [exitA] at h
  | _, _, .cons x y, a', h => by
    cases x with
    | inBlock i =>
      simp only [exitA] at h
      cases hb : Nat.beq i id with
      | true =>
        rw [hb] at h; simp only [cond_true, Option.some.injEq] at h; subst h
        have := Nat.eq_of_beq_eq_true hb
        exact ⟨_, by simp [exitTo, this], y⟩
      | false =>
        rw [hb] at h; simp only [cond_false] at h
        obtain ⟨b', h1, h2⟩ := exit_rel y a' h
        have hne : (i == id) = false := by
          cases hh : (i == id) with
          | false => rfl
          | true => rw [beq_iff_eq.1 hh, Nat.beq_refl] at hb; cases hb
        exact ⟨b', by simp [exitTo, hne, h1], h2⟩
    | code c => obtain ⟨b', h1, h2⟩ := exit_rel y a' (by simpa [exitA] using h); exact ⟨b', by simp [exitTo, h1], h2⟩
    | inLoop c => obtain ⟨b', h1, h2⟩ := exit_rel y a' (by simpa [exitA] using h); exact ⟨b', by simp [exitTo, h1], h2⟩
    | inScope c => obtain ⟨b', h1, h2⟩ := exit_rel y a' (by simpa [exitA] using h); exact ⟨b', by simp [exitTo, h1], h2⟩
    | ops a j hj => obtain ⟨b', h1, h2⟩ := exit_rel y a' (by simpa [exitA] using h); exact ⟨b', by simp [exitTo, h1], h2⟩
    | inRF e => obtain ⟨b', h1, h2⟩ := exit_rel y a' (by simpa [exitA] using h); exact ⟨b', by simp [exitTo, h1], h2⟩
    | endRF e => obtain ⟨b', h1, h2⟩ := exit_rel y a' (by simpa [exitA] using h); exact ⟨b', by simp [exitTo, h1], h2⟩

inductive Body (P : Program) (ι : Inj) (s : S) (hb nt : Nat) (K : List Item) (g : T Value) (tmps : Array Value) : List AItem → List Item → Prop
  | plain {todo : List AItem} {todo' : List Item} : TmpRel ι g tmps → ItsRel P nt ι K todo todo' → Body P ι s hb nt K g tmps todo todo'
  | draw {all : Array Oper} {ops : List Dop} {p : Nat} {hs : List Cl} {L : List Nat} {k : List AItem} {k' : List Item} : Before P nt all hb ι s g tmps ops p hs L → ItsRel P nt ι K k k' →
      Body P ι s hb nt K g tmps (.draw all ops p hs :: k) (.inRegion all L :: k')

/-- what lies under the lowest frame -/
structure Suf where
  K : List Item
  D : List Deferred
  kd : Option Bool
  me : Option (FuncId × Nat × CallKind)

inductive DefsTo (ι : Inj) (D : List Deferred) : List ADef → List Deferred → Prop
  | nil : DefsTo ι D [] D
  | cons {d : ADef} {d' : Deferred} {l : List ADef} {l' : List Deferred} : DefRel ι d d' → DefsTo ι D l l' → DefsTo ι D (d :: l) (d' :: l')
theorem DefsTo.mono {ι ι' : Inj} {D : List Deferred} (h : Ext ι ι') : ∀ {d : List ADef} {d' : List Deferred}, DefsTo ι D d d' → DefsTo ι' D d d'
  | _, _, .nil => .nil
  | _, _, .cons a b => .cons (a.mono h) (b.mono h)

def kindOf (d : Bool) : CallKind := if d then .deferred else .normal

structure Top (P : Program) (ι : Inj) (s : S) (sf : Suf) (hb : Nat) (fr : Fr) (fr' : Frame) : Prop where
  fn : fr'.fn = fr.fn
  func : ∃ f, P.funcs[fr.fn]? = some f
  rnd : fr.rnd = none
  rnd' : fr'.roundOf = none
  kind : (∀ d, sf.kd = some d → fr.isDef = d ∧ fr'.kind = kindOf d) ∧ ∀ q, sf.me = some q → fr.fn = q.1 ∧ fr.nt = q.2.1 ∧ fr'.kind = q.2.2
  size : fr'.tmps.size = fr.nt
  defers : DefsTo ι sf.D fr.defers fr'.defers
  mode : ModeRel ι fr.mode fr'.mode
  body : fr.mode = .run → Body P ι s hb fr.nt sf.K fr.g fr'.tmps fr.todo fr'.todo
  tmps : fr.mode ≠ .run → TmpRel ι fr.g fr'.tmps

theorem Top.monoN {ι ι' : Inj} {s s' : S} {sf : Suf} {hb : Nat} {fr : Fr} {fr' : Frame} (h : Top P ι s sf hb fr fr') (hx : Ext ι ι') (hm : fr.mode ≠ .run) : Top P ι' s' sf hb fr fr' :=
  ⟨h.fn, h.func, h.rnd, h.rnd', h.kind, h.size, h.defers.mono hx, h.mode.mono hx, fun e => absurd e hm, fun e => (h.tmps e).mono hx⟩

/-- a frame that waits for an answer -/
def Wait (P : Program) (ι : Inj) (s : S) (sf : Suf) (hb hb' : Nat) (c : Fr) (c' : Frame) : Prop :=
  ∀ ι' s', Fut hb' ι s ι' s' →
    (∀ v v' c1, VRel ι' v v' → finish c v = some c1 → Top P ι' s' sf hb c1 (c'.finish v')) ∧
    (∀ ch ch', PanRel ι' ch ch' → Top P ι' s' sf hb (raise c ch) (c'.raise ch'))

structure Base where
  sf : Suf
  hb : Nat
  cs : List Frame

inductive Cal (P : Program) (B : Base) (ι : Inj) (s : S) : Nat → Suf → List Fr → List Frame → Prop
  | base : Cal P B ι s B.hb B.sf [] B.cs
  | call {hb hb' : Nat} {sf : Suf} {c : Fr} {c' : Frame} {cs : List Fr} {cs' : List Frame} : Cal P B ι s hb sf cs cs' → hb ≤ hb' → Wait P ι s sf hb hb' c c' → Cal P B ι s hb' ⟨[], [], some false, none⟩ (c :: cs) (c' :: cs')
  | dfr {hb hb' : Nat} {sf : Suf} {c : Fr} {c' : Frame} {cs : List Fr} {cs' : List Frame} : Cal P B ι s hb sf cs cs' → hb ≤ hb' → c.mode ≠ .run → Top P ι s sf hb c c' → Cal P B ι s hb' ⟨[], [], some true, none⟩ (c :: cs) (c' :: cs')

theorem Cal.mono {B : Base} {ι ι' : Inj} {s s' : S} {hb : Nat} {sf : Suf} {cs : List Fr} {cs' : List Frame} (h : Cal P B ι s hb sf cs cs') : Fut hb ι s ι' s' → Cal P B ι' s' hb sf cs cs' := by
  induction h with
  | base => intro _; exact .base
  | call h1 h2 h3 ih => exact fun f => .call (ih (f.weaken h2)) h2 (fun ι'' s'' f' => h3 ι'' s'' (f.trans f'))
  | dfr h1 h2 h3 h4 ih => exact fun f => .dfr (ih (f.weaken h2)) h2 h3 (h4.monoN f.ext h3)

theorem Cal.le {B : Base} {ι : Inj} {s : S} {hb : Nat} {sf : Suf} {cs : List Fr} {cs' : List Frame} (h : Cal P B ι s hb sf cs cs') : B.hb ≤ hb := by
  induction h with
  | base => exact Nat.le_refl _
  | call _ h2 _ ih => omega
  | dfr _ h2 _ _ ih => omega

/-- what was before the run stands -/
structure Ini (w0 : World) (ι : Inj) (s : S) (w : World) : Prop where
  size : w0.heap.size ≤ w.heap.size
  same : ∀ b, b < w0.heap.size → w.heap[b]? = w0.heap[b]?
  own : ∀ b, b < w0.heap.size → ¬ Owned ι s b
  out : w.output = w0.output
  os : w.os = w0.os
  tape : w.tape = w0.tape
theorem Ini.fm {w0 : World} {ι ι' : Inj} {s s' : S} {w w' : World} {hb : Nat} (h : Ini w0 ι s w) (f : Fm hb ι s w ι' s' w') : Ini w0 ι' s' w' :=
  ⟨Nat.le_trans h.size f.size, fun b hb => by rw [f.heap b (Nat.lt_of_lt_of_le hb h.size) (h.own b hb), h.same b hb],
   fun b hb ho => h.own b hb (f.own b (Nat.lt_of_lt_of_le hb h.size) ho), by rw [f.out, h.out], by rw [f.os, h.os], by rw [f.tape, h.tape]⟩

/-- the two machines stand alike -/
structure RSt (P : Program) (B : Base) (w0 : World) (ι : Inj) (hb : Nat) (sf : Suf) (fr : Fr) (rest : List Fr) (s : S) (top : Frame) (cs : List Frame) (w : World) : Prop where
  cal : Cal P B ι s hb sf rest cs
  top : Top P ι s sf hb fr top
  srel : SRel P ι s w
  hb : hb ≤ s.nx
  lo : s.lo ≤ s.nx
  ini : Ini w0 ι s w

/-- functions known whole are as the model's -/
def KnownOk (P : Program) (K : Known) (w0 : World) : Prop :=
  ∀ f F, K f = some F → ∀ args s v, F args s = some v → ∀ ι w (args' : Array Value), w0.heap.size ≤ w.heap.size → (∀ b, b < w0.heap.size → w.heap[b]? = w0.heap[b]?) → SRel P ι s w → VRelL ι args args'.toList →
    ∃ v', VRel ι v v' ∧ Calls P f args' w fun e w' => e = .returned v' ∧ w' = w

/-- what a step comes to -/
def ResPost' (P : Program) (B : Base) (w0 : World) (ι : Inj) (s : S) (w : World) (m : Machine) : Res → Prop
  | .next ⟨frs, s'⟩ => ∃ ι' hb sf fr rest top cs w', frs = fr :: rest ∧ Steps P m (lone top cs w') ∧ RSt P B w0 ι' hb sf fr rest s' top cs w' ∧ Fm B.hb ι s w ι' s' w'
  | .idle fr s' => ∃ ι' top w', fr.todo = [] ∧ fr.mode = .run ∧ Steps P m (lone top B.cs w') ∧ RSt P B w0 ι' B.hb B.sf fr [] s' top B.cs w' ∧ Fm B.hb ι s w ι' s' w'
  | .stop fr s' => ∃ ι' top w', fr.defers = [] ∧ fr.mode ≠ .run ∧ Steps P m (lone top B.cs w') ∧ RSt P B w0 ι' B.hb B.sf fr [] s' top B.cs w' ∧ Fm B.hb ι s w ι' s' w'
  | .upd fr s' r k x => ∃ ι' w' kind tmps ds todo all i L o, Steps P m (lone (mkF fr.fn kind tmps ds (.inRegion all (i :: L) :: todo)) B.cs w') ∧ SRel P ι' s' w' ∧ s'.lo ≤ s'.nx ∧ B.hb ≤ s'.nx ∧ Ini w0 ι' s' w' ∧ Fm B.hb ι s w ι' s' w' ∧
      AtOp P ι' s' w' all tmps i o (.upd r k x) ∧ Wait P ι' s' B.sf B.hb s'.nx fr (mkF fr.fn kind tmps ds (.inRegion all (i :: L) :: todo))
  | .bad _ => True

theorem ResPost'.of_steps {B : Base} {w0 : World} {ι ι1 : Inj} {s s1 : S} {w w1 : World} {m m1 : Machine} {r : Res} (h : Steps P m m1) (f : Fm B.hb ι s w ι1 s1 w1)
    (k : ResPost' P B w0 ι1 s1 w1 m1 r) : ResPost' P B w0 ι s w m r := by
  cases r with
  | next st =>
    obtain ⟨frs, s'⟩ := st
    obtain ⟨a1, a2, a3, a4, a5, a6, a7, a8, b1, b2, b3, b4⟩ := k
    exact ⟨a1, a2, a3, a4, a5, a6, a7, a8, b1, h.trans b2, b3, f.trans b4⟩
  | idle fr s' =>
    obtain ⟨a1, a2, a3, b0, b1, b2, b3, b4⟩ := k
    exact ⟨a1, a2, a3, b0, b1, h.trans b2, b3, f.trans b4⟩
  | stop fr s' =>
    obtain ⟨a1, a2, a3, b0, b1, b2, b3, b4⟩ := k
    exact ⟨a1, a2, a3, b0, b1, h.trans b2, b3, f.trans b4⟩
  | upd fr s' r k x =>
    obtain ⟨a1, a2, a3, a4, a5, a6, a7, a8, a9, a10, b1, b2, b3, b4, b5, b6, b7⟩ := k
    exact ⟨a1, a2, a3, a4, a5, a6, a7, a8, a9, a10, h.trans b1, b2, b3, b4, b5, f.trans b6, b7⟩
  | bad => trivial

/-! ### entering -/

theorem finfo_eq {f : FuncId} {nt : Nat} {c : Code} {rs : List ResultVar} (h : finfo P f = some ⟨nt, c, rs⟩) : ∃ fn, P.funcs[f]? = some fn ∧ fn.body = some c ∧ fn.ntmps = nt ∧ fn.results.toList = rs := by
  unfold finfo at h
  cases hf : P.funcs[f]? with
  | none => simp [hf] at h
  | some fn =>
    simp only [hf] at h
    cases hb : fn.body with
    | none => simp [hb] at h
    | some c' => simp [hb] at h; obtain ⟨rfl, rfl, rfl⟩ := h; exact ⟨fn, rfl, hb, rfl, rfl⟩

theorem enter_ok {f : FuncId} {args : List Value} {args' : Array Value} {isDef : Bool} {n : Fr} (h : enter P f args isDef = some n) {ι : Inj} (hr : VRelL ι args args'.toList) (s : S) (hb : Nat) :
    Top P ι s ⟨[], [], some isDef, none⟩ hb n (Frame.enter P f args' (kindOf isDef)) := by
  unfold enter at h
  cases hi : finfo P f with
  | none => simp [hi] at h
  | some fi =>
    obtain ⟨nt, c, rs⟩ := fi
    simp only [hi] at h
    cases hle : Nat.ble args.length nt with
    | false => rw [hle] at h; cases h
    | true =>
      rw [hle] at h; simp only [cond_true, Option.some.injEq] at h; subst h
      have hle' : args.length ≤ nt := Nat.le_of_ble_eq_true hle
      obtain ⟨fn, h1, h2, h3, _⟩ := finfo_eq hi
      have hlen : args.length = args'.size := by rw [hr.length]; simp
      have hT : TmpRel ι (T.ofList args 0 .leaf) (args' ++ Array.replicate (nt - args'.size) undef) := by
        intro t
        simp only [ev, T.get_ofList]
        simp only [Nat.zero_le, true_and, Nat.zero_add, Nat.sub_zero]
        by_cases ht : t < args.length
        · rw [if_pos ht]
          have e : args[t]? = some (args[t]) := List.getElem?_eq_getElem ht
          rw [e]
          obtain ⟨v', x1, x2⟩ := hr.get e
          have hlt : t < args'.size := by rw [← hlen]; exact ht
          have : (args' ++ Array.replicate (nt - args'.size) undef).getD t undef = v' := by
            rw [Array.getElem?_toList, Array.getElem?_eq_getElem hlt] at x1
            simp only [Option.some.injEq] at x1
            have hlt2 : t < args'.size + (nt - args'.size) := Nat.lt_of_lt_of_le hlt (Nat.le_add_right _ _)
            simp [Array.getD, Array.getElem_append, hlt, x1, hlt2]
          rw [this]; exact x2
        · rw [if_neg ht]
          have hget : (T.leaf : T Value).get t = none := rfl
          rw [hget]
          have : (args' ++ Array.replicate (nt - args'.size) undef).getD t undef = undef := by
            by_cases h2 : t < (args' ++ Array.replicate (nt - args'.size) undef).size
            · simp only [Array.getD, h2, dite_true]
              have hge : ¬ t < args'.size := by rw [← hlen]; exact ht
              simp [Array.getElem_append, hge]
            · simp only [Array.getD, h2, dite_false]
          rw [this]; exact .tuple .nil
      refine ⟨rfl, ⟨fn, h1⟩, rfl, rfl, ⟨fun d hd => by cases hd; exact ⟨rfl, rfl⟩, nofun⟩, ?_, .nil, .run, fun _ => ?_, fun x => absurd rfl x⟩
      · simp only [Frame.enter, h1, h3, Option.map_some, Option.getD_some, Array.size_append, Array.size_replicate]; omega
      · refine .plain ?_ ?_
        · simpa [Frame.enter, h1, h3] using hT
        · simp only [Frame.enter, h1, Option.bind_some, h2, Option.getD_some]
          exact .cons (.code c) .nil

end Go.AM
