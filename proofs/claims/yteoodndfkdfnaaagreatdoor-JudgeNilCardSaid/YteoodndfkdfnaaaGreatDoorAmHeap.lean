/- The heap's laws: a new block, a store, a row that is gone. -/
import Derived.Test.YteoodndfkdfnaaaGreatDoorAmRel
namespace Go.AM

structure WPut (w w' : World) (b : Nat) (o : Obj) : Prop where
  at_ : w'.heap[b]? = some o
  other : ∀ c, c ≠ b → w'.heap[c]? = w.heap[c]?
  size : w'.heap.size = w.heap.size
  os : w'.os = w.os
  out : w'.output = w.output
  tape : w'.tape = w.tape
structure WPush (w w' : World) (o : Obj) : Prop where
  at_ : w'.heap[w.heap.size]? = some o
  other : ∀ c, c < w.heap.size → w'.heap[c]? = w.heap[c]?
  size : w'.heap.size = w.heap.size + 1
  os : w'.os = w.os
  out : w'.output = w.output
  tape : w'.tape = w.tape
/-- nothing but the count of draws -/
structure WSame (w w' : World) : Prop where
  heap : w'.heap = w.heap
  os : w'.os = w.os
  out : w'.output = w.output
  tape : w'.tape = w.tape
theorem WSame.refl (w : World) : WSame w w := ⟨rfl, rfl, rfl, rfl⟩

theorem S.push_get (s : S) (o : AObj) (id : Nat) : (s.push o).h.get id = if id = s.nx then some o else s.h.get id := by
  cases s; simp [S.push, T.get_set]
theorem S.push_nx (s : S) (o : AObj) : (s.push o).nx = s.nx + 1 := by cases s; rfl
theorem S.push_lo (s : S) (o : AObj) : (s.push o).lo = s.lo := by cases s; rfl
theorem S.put_get (s : S) (i : Nat) (o : AObj) (id : Nat) : (s.put i o).h.get id = if id = i then some o else s.h.get id := by
  cases s; simp [S.put, T.get_set]
theorem S.put_nx (s : S) (i : Nat) (o : AObj) : (s.put i o).nx = s.nx := by cases s; rfl
theorem S.put_lo (s : S) (i : Nat) (o : AObj) : (s.put i o).lo = s.lo := by cases s; rfl

variable {P : Program} {ι : Inj} {s : S} {w w' : World} {hb : Nat}

theorem SRel.same (h : SRel P ι s w) (k : WSame w w') : SRel P ι s w' :=
  ⟨fun id l o a b => by rw [k.heap]; exact h.obj id l o a b, h.fresh, fun id l a => by rw [k.heap]; exact h.bound id l a, h.alias, h.par⟩
theorem Fm.same (k : WSame w w') : Fm hb ι s w ι s w' :=
  { Fm.refl hb ι s w with
    heap := fun b _ _ => by rw [k.heap]
    size := by rw [k.heap]; exact Nat.le_refl _
    os := k.os, out := k.out, tape := k.tape }

/-- a new object, that nothing stands for yet -/
theorem SRel.prepush (h : SRel P ι s w) (o : AObj) : SRel P ι (s.push o) w := by
  have hu : ι s.nx = none := h.fresh _ (Nat.le_refl _)
  have hne : ∀ id l, ι id = some l → id ≠ s.nx := fun id l a e => by subst e; rw [hu] at a; cases a
  refine ⟨fun id l ob a b => h.obj id l ob a ?_, fun id hi => h.fresh id (by rw [S.push_nx] at hi; omega), h.bound, ?_, ?_⟩
  · rw [S.push_get, if_neg (hne _ _ a)] at b; exact b
  · intro id1 id2 l1 l2 o1 o2 hn a b e c d
    rw [S.push_get, if_neg (hne _ _ a)] at c
    rw [S.push_get, if_neg (hne _ _ b)] at d
    exact h.alias id1 id2 l1 l2 o1 o2 hn a b e c d
  · intro id ob p c a hd hp
    have hid : id ≠ s.nx := fun e => a (by rw [e]; exact hu)
    rw [S.push_get, if_neg hid] at c
    obtain ⟨x, y⟩ := h.par id ob p c a hd hp
    refine ⟨x, fun o' ho' => y o' ?_⟩
    have hpn : p ≠ s.nx := fun e => x (by rw [e]; exact hu)
    rw [S.push_get, if_neg hpn] at ho'; exact ho'

theorem Fm.prepush (h : SRel P ι s w) (hb' : hb ≤ s.nx) (hlo : s.lo ≤ s.nx) (o : AObj) : Fm hb ι s w ι (s.push o) w := by
  have hu : ι s.nx = none := h.fresh _ (Nat.le_refl _)
  refine { Fm.refl hb ι s w with keep := ?_, own := ?_, ownL := ?_, absent := ?_, low := ?_, lo := S.push_lo _ _, nx := by rw [S.push_nx]; omega }
  · intro id hi hn; exact ⟨hn, by rw [S.push_get, if_neg (by omega)]⟩
  · rintro b _ ⟨id, l, ob, a, e, c, d⟩
    have hid : id ≠ s.nx := fun x => by subst x; rw [hu] at a; cases a
    rw [S.push_get, if_neg hid] at c
    exact ⟨id, l, ob, a, e, c, d⟩
  · rintro b _ ⟨id, l, ob, z, a, e, c, d⟩
    have hid : id ≠ s.nx := fun x => by subst x; rw [hu] at a; cases a
    rw [S.push_get, if_neg hid] at c
    exact ⟨id, l, ob, by rwa [S.push_lo] at z, a, e, c, d⟩
  · intro id hi hg; rw [S.push_get, if_neg (by omega)]; exact hg
  · intro id hi; rw [S.push_get, if_neg (by omega)]

def Inj.up (ι : Inj) (b : Nat) (l : Loc) : Inj := fun id => if id = b then some l else ι id
theorem Inj.up_self (ι : Inj) (b : Nat) (l : Loc) : ι.up b l b = some l := by simp [Inj.up]
theorem Inj.up_ne (ι : Inj) {b id : Nat} (l : Loc) (h : id ≠ b) : ι.up b l id = ι id := by simp [Inj.up, h]
theorem Ext.up {ι : Inj} {b : Nat} (l : Loc) (h : ι b = none) : Ext ι (ι.up b l) := fun id l' a => by
  rw [Inj.up_ne]; exact a; intro e; subst e; rw [h] at a; cases a

/-- the model makes the block -/
theorem SRel.adopt (h : SRel P ι s w) {b top : Nat} {o : AObj} {o' : Obj} (hu : ι b = none) (hg : s.h.get b = some o) (hn : b < s.nx) (hp : ∀ p, ¬ Par o p)
    (hw : WPush w w' o') (hr : ORel P (ι.up b ⟨w.heap.size, 0, top⟩) ⟨w.heap.size, 0, top⟩ o o') : SRel P (ι.up b ⟨w.heap.size, 0, top⟩) s w' := by
  have hx := Ext.up ⟨w.heap.size, 0, top⟩ hu
  refine ⟨?_, ?_, ?_, ?_, ?_⟩
  · intro id l ob a c
    by_cases e : id = b
    · subst e
      rw [Inj.up_self] at a; cases a
      rw [hg] at c; cases c
      exact ⟨o', hw.at_, hr⟩
    · rw [Inj.up_ne _ _ e] at a
      obtain ⟨x, y, r⟩ := h.obj id l ob a c
      exact ⟨x, by rw [hw.other _ (h.bound _ _ a)]; exact y, r.mono hx⟩
  · intro id hi
    rw [Inj.up_ne _ _ (by omega)]; exact h.fresh id hi
  · intro id l a
    by_cases e : id = b
    · subst e; rw [Inj.up_self] at a; cases a; rw [hw.size]; simp
    · rw [Inj.up_ne _ _ e] at a; have := h.bound _ _ a; rw [hw.size]; omega
  · intro id1 id2 l1 l2 o1 o2 hne a c e d f
    by_cases e1 : id1 = b
    · by_cases e2 : id2 = b
      · exact absurd (e1.trans e2.symm) hne
      · subst e1; rw [Inj.up_self] at a; cases a
        rw [Inj.up_ne _ _ e2] at c; have := h.bound _ _ c; simp at e; omega
    · rw [Inj.up_ne _ _ e1] at a
      by_cases e2 : id2 = b
      · subst e2; rw [Inj.up_self] at c; cases c; have := h.bound _ _ a; simp at e; omega
      · rw [Inj.up_ne _ _ e2] at c
        exact h.alias id1 id2 l1 l2 o1 o2 hne a c e d f
  · intro id ob p c a hd hpp
    by_cases e : id = b
    · subst e; rw [hg] at c; cases c; exact absurd hpp (hp p)
    · rw [Inj.up_ne _ _ e] at a
      obtain ⟨x, y⟩ := h.par id ob p c a hd hpp
      refine ⟨fun z => x ?_, y⟩
      by_cases e2 : p = b
      · subst e2; rw [Inj.up_self] at z; cases z
      · rw [Inj.up_ne _ _ e2] at z; exact z

theorem Fm.adopt (h : SRel P ι s w) {b top : Nat} {o' : Obj} (hu : ι b = none) (hbb : hb ≤ b)
    (hw : WPush w w' o') : Fm hb ι s w (ι.up b ⟨w.heap.size, 0, top⟩) s w' := by
  refine { ext := Ext.up _ hu, keep := ?_, new := ?_, heap := fun c hc _ => hw.other c hc, own := ?_, ownL := ?_, absent := fun _ _ h => h, low := fun _ _ => rfl, lo := rfl, nx := Nat.le_refl _,
           size := by rw [hw.size]; omega, os := hw.os, out := hw.out, tape := hw.tape }
  · intro id hi hn; exact ⟨by rw [Inj.up_ne _ _ (by omega)]; exact hn, rfl⟩
  · intro id l hn hs
    by_cases e : id = b
    · subst e; rw [Inj.up_self] at hs; cases hs; exact .inl (Nat.le_refl _)
    · rw [Inj.up_ne _ _ e, hn] at hs; cases hs
  · rintro c hc ⟨id, l, ob, a, e, g, d⟩
    by_cases e1 : id = b
    · subst e1; rw [Inj.up_self] at a; cases a; simp at e; omega
    · rw [Inj.up_ne _ _ e1] at a; exact ⟨id, l, ob, a, e, g, d⟩
  · rintro c hc ⟨id, l, ob, z, a, e, g, d⟩
    by_cases e1 : id = b
    · subst e1; rw [Inj.up_self] at a; cases a; simp at e; omega
    · rw [Inj.up_ne _ _ e1] at a; exact ⟨id, l, ob, z, a, e, g, d⟩

/-- a new object and its block -/
theorem SRel.push (h : SRel P ι s w) {top : Nat} {o : AObj} {o' : Obj} (hp : ∀ p, ¬ Par o p)
    (hw : WPush w w' o') (hr : ORel P (ι.up s.nx ⟨w.heap.size, 0, top⟩) ⟨w.heap.size, 0, top⟩ o o') :
    SRel P (ι.up s.nx ⟨w.heap.size, 0, top⟩) (s.push o) w' :=
  (h.prepush o).adopt (h.fresh _ (Nat.le_refl _)) (by rw [S.push_get, if_pos rfl]) (by rw [S.push_nx]; omega) hp hw hr
theorem Fm.push (h : SRel P ι s w) (hb' : hb ≤ s.nx) (hlo : s.lo ≤ s.nx) {top : Nat} {o : AObj} {o' : Obj} (hw : WPush w w' o') :
    Fm hb ι s w (ι.up s.nx ⟨w.heap.size, 0, top⟩) (s.push o) w' :=
  (Fm.prepush h hb' hlo o).trans (Fm.adopt (h.prepush o) (h.fresh _ (Nat.le_refl _)) hb' hw)

/-- an object is another one -/
theorem SRel.put (h : SRel P ι s w) {id : Nat} {l : Loc} {o o₀ : AObj} {o' : Obj} (hi : ι id = some l) (h₀ : s.h.get id = some o₀)
    (hp : ∀ p, ¬ Par o p) (hu : ∀ id2 l2 o2, id2 ≠ id → ι id2 = some l2 → l2.blk = l.blk → s.h.get id2 = some o2 → Dead o2)
    (hc : ∀ id2 o2, s.h.get id2 = some o2 → ι id2 ≠ none → ¬ Dead o2 → ¬ Par o2 id)
    (hw : WPut w w' l.blk o') (hr : ORel P ι l o o') : SRel P ι (s.put id o) w' := by
  refine ⟨?_, fun i hn => h.fresh i (by rw [S.put_nx] at hn; exact hn), fun i l' a => by rw [hw.size]; exact h.bound i l' a, ?_, ?_⟩
  · intro i l' ob a c
    rw [S.put_get] at c
    by_cases e : i = id
    · subst e; rw [if_pos rfl] at c; cases c; rw [hi] at a; cases a; exact ⟨o', hw.at_, hr⟩
    · rw [if_neg e] at c
      obtain ⟨x, y, r⟩ := h.obj i l' ob a c
      by_cases eb : l'.blk = l.blk
      · have hd := hu i l' ob e a eb c
        cases ob with
        | blk b => exact ⟨o', by rw [eb]; exact hw.at_, by obtain ⟨c', n', e', p', st'⟩ := b; exact .dead _ hd⟩
        | _ => exact absurd hd (by simp [Dead])
      · exact ⟨x, by rw [hw.other _ eb]; exact y, r⟩
  · intro i1 i2 l1 l2 o1 o2 hne a b e c d
    rw [S.put_get] at c d
    by_cases e1 : i1 = id
    · subst e1; rw [hi] at a; cases a
      rw [if_neg (Ne.symm hne)] at d
      exact .inr (.inl (hu i2 l2 o2 (Ne.symm hne) b e.symm d))
    · rw [if_neg e1] at c
      by_cases e2 : i2 = id
      · subst e2; rw [hi] at b; cases b
        exact .inl (hu i1 l1 o1 hne a e c)
      · rw [if_neg e2] at d; exact h.alias i1 i2 l1 l2 o1 o2 hne a b e c d
  · intro i ob p c a hd hpp
    rw [S.put_get] at c
    by_cases e : i = id
    · subst e; rw [if_pos rfl] at c; cases c; exact absurd hpp (hp p)
    · rw [if_neg e] at c
      obtain ⟨x, y⟩ := h.par i ob p c a hd hpp
      refine ⟨x, fun ob' ho' => ?_⟩
      rw [S.put_get] at ho'
      by_cases e2 : p = id
      · subst e2; exact absurd hpp (hc i ob c a hd)
      · rw [if_neg e2] at ho'; exact y ob' ho'

theorem Fm.put {id : Nat} {l : Loc} {o o₀ : AObj} {o' : Obj} (hi : ι id = some l) (h₀ : s.h.get id = some o₀) (hh : NotHole o₀) (hlo : s.lo ≤ id)
    (hw : WPut w w' l.blk o') : Fm hb ι s w ι (s.put id o) w' := by
  have hown : Owned ι s l.blk := ⟨id, l, o₀, hi, rfl, h₀, hh⟩
  refine { ext := Ext.refl _, keep := ?_, new := fun _ _ a b => (by rw [a] at b; cases b), heap := ?_, own := ?_, ownL := ?_, absent := ?_, low := ?_, lo := S.put_lo _ _ _, nx := by rw [S.put_nx]; exact Nat.le_refl _,
           size := by rw [hw.size]; exact Nat.le_refl _, os := hw.os, out := hw.out, tape := hw.tape }
  · intro i _ hn
    refine ⟨hn, ?_⟩
    rw [S.put_get, if_neg (fun e => by subst e; rw [hi] at hn; cases hn)]
  · intro b _ hno
    exact hw.other b (fun e => hno (e ▸ hown))
  · rintro b _ ⟨i, l', ob, a, e, c, d⟩
    rw [S.put_get] at c
    by_cases ei : i = id
    · subst ei; rw [hi] at a; cases a; exact e ▸ hown
    · rw [if_neg ei] at c; exact ⟨i, l', ob, a, e, c, d⟩
  · rintro b _ ⟨i, l', ob, z, a, e, c, d⟩
    rw [S.put_get] at c
    rw [S.put_lo] at z
    by_cases ei : i = id
    · subst ei; rw [hi] at a; cases a; exact ⟨i, l, o₀, z, hi, e, h₀, hh⟩
    · rw [if_neg ei] at c; exact ⟨i, l', ob, z, a, e, c, d⟩
  · intro i _ hg
    rw [S.put_get, if_neg (fun e => by subst e; rw [h₀] at hg; cases hg)]; exact hg
  · intro i hlt; rw [S.put_get, if_neg (by omega)]

/-- the model's object is another one, that serves as well -/
theorem SRel.touch (h : SRel P ι s w) {b : Nat} {o' : Obj} (hw : WPut w w' b o') (hr : ∀ id l o, ι id = some l → l.blk = b → s.h.get id = some o → ORel P ι l o o') : SRel P ι s w' := by
  refine ⟨?_, h.fresh, fun i l' a => by rw [hw.size]; exact h.bound i l' a, h.alias, h.par⟩
  intro id l o a c
  by_cases e : l.blk = b
  · exact ⟨o', by rw [e]; exact hw.at_, hr id l o a e c⟩
  · obtain ⟨x, y, r⟩ := h.obj id l o a c
    exact ⟨x, by rw [hw.other _ e]; exact y, r⟩
theorem Fm.touch {b : Nat} {o' : Obj} (ho : Owned ι s b) (hw : WPut w w' b o') : Fm hb ι s w ι s w' :=
  { Fm.refl hb ι s w with
    heap := fun c _ hno => hw.other c (fun e => hno (e ▸ ho))
    size := by rw [hw.size]; exact Nat.le_refl _
    os := hw.os, out := hw.out, tape := hw.tape }

theorem S.blk?_eq {s : S} {b : Nat} {x : Blk} : s.blk? b = some x ↔ s.h.get b = some (.blk x) := by
  unfold S.blk?
  cases s.h.get b with
  | none => simp
  | some o => cases o <;> simp

/-- a row is gone -/
theorem SRel.kill (h : SRel P ι s w) {p : Nat} {s' : S} (hk : s.kill (some p) = some s') (hip : ι p ≠ none) :
    SRel P ι s' w ∧ Fm hb ι s w ι s' w ∧ s'.nx = s.nx ∧ s'.lo = s.lo ∧ (∀ id, id ≠ p → s'.h.get id = s.h.get id) ∧ ∃ b : Blk, s'.h.get p = some (.blk b) ∧ b.st = 2 := by
  unfold S.kill at hk
  simp only [] at hk
  cases hlo : Nat.ble s.lo p with
  | false => simp [hlo] at hk
  | true =>
    simp only [hlo, cond_true] at hk
    have hlo' : s.lo ≤ p := Nat.le_of_ble_eq_true hlo
    cases hb' : s.blk? p with
    | none => simp [hb'] at hk
    | some x =>
      obtain ⟨c, n, e, q, st⟩ := x
      simp only [hb', Option.some.injEq] at hk
      subst hk
      rw [S.blk?_eq] at hb'
      refine ⟨⟨?_, fun i hn => h.fresh i (by rw [S.put_nx] at hn; exact hn), h.bound, ?_, ?_⟩, ?_, S.put_nx _ _ _, S.put_lo _ _ _, fun id hne => by rw [S.put_get, if_neg hne],
        ⟨⟨c, n, e, q, 2⟩, by rw [S.put_get, if_pos rfl], rfl⟩⟩
      · intro i l ob a g
        rw [S.put_get] at g
        by_cases e1 : i = p
        · subst e1; rw [if_pos rfl] at g; cases g
          obtain ⟨x, y, _⟩ := h.obj i l _ a hb'
          exact ⟨x, y, .dead _ (Nat.le_refl _)⟩
        · rw [if_neg e1] at g; exact h.obj i l ob a g
      · intro i1 i2 l1 l2 o1 o2 hne a b e' g d
        rw [S.put_get] at g d
        by_cases e1 : i1 = p
        · subst e1; rw [if_pos rfl] at g; cases g; exact .inl (by simp [Dead])
        · rw [if_neg e1] at g
          by_cases e2 : i2 = p
          · subst e2; rw [if_pos rfl] at d; cases d; exact .inr (.inl (by simp [Dead]))
          · rw [if_neg e2] at d; exact h.alias i1 i2 l1 l2 o1 o2 hne a b e' g d
      · intro i ob q' g a hd hpp
        rw [S.put_get] at g
        by_cases e1 : i = p
        · subst e1; rw [if_pos rfl] at g; cases g; exact absurd (show Dead _ by simp [Dead]) hd
        · rw [if_neg e1] at g
          obtain ⟨x, y⟩ := h.par i ob q' g a hd hpp
          refine ⟨x, fun ob' ho' => ?_⟩
          rw [S.put_get] at ho'
          by_cases e2 : q' = p
          · subst e2; rw [if_pos rfl] at ho'; cases ho'; exact ⟨_, rfl, by simp⟩
          · rw [if_neg e2] at ho'; exact y ob' ho'
      · refine { Fm.refl hb ι s w with keep := ?_, own := ?_, ownL := ?_, absent := ?_, low := ?_, lo := S.put_lo _ _ _, nx := by rw [S.put_nx]; exact Nat.le_refl _ }
        · intro i _ hn; exact ⟨hn, by rw [S.put_get, if_neg (fun e1 => hip (by rw [← e1]; exact hn))]⟩
        · rintro b _ ⟨i, l', ob, a, e', g, d⟩
          rw [S.put_get] at g
          by_cases ei : i = p
          · subst ei; rw [if_pos rfl] at g; cases g; simp [NotHole] at d
          · rw [if_neg ei] at g; exact ⟨i, l', ob, a, e', g, d⟩
        · rintro b _ ⟨i, l', ob, z, a, e', g, d⟩
          rw [S.put_get] at g
          rw [S.put_lo] at z
          by_cases ei : i = p
          · subst ei; rw [if_pos rfl] at g; cases g; simp [NotHole] at d
          · rw [if_neg ei] at g; exact ⟨i, l', ob, z, a, e', g, d⟩
        · intro i _ hg
          rw [S.put_get, if_neg (fun e' => by subst e'; rw [hb'] at hg; cases hg)]; exact hg
        · intro i hlt; rw [S.put_get, if_neg (by omega)]

end Go.AM
