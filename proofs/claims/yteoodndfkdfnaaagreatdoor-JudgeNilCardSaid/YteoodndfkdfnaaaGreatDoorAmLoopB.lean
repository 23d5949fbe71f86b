/- Loops over maps: one round. -/
import Derived.Test.YteoodndfkdfnaaaGreatDoorAmLoopA
namespace Go.AM
variable {P : Program} {K : Known} {w0 : World}

def mergeI (ιd ι1 : Inj) (a b : Nat) : Inj := fun id => if a ≤ id ∧ id < b then ι1 id else ιd id
theorem mergeI_in {ιd ι1 : Inj} {a b id : Nat} (h : a ≤ id ∧ id < b) : mergeI ιd ι1 a b id = ι1 id := by simp [mergeI, h]
theorem mergeI_out {ιd ι1 : Inj} {a b id : Nat} (h : ¬ (a ≤ id ∧ id < b)) : mergeI ιd ι1 a b id = ιd id := by
  unfold mergeI; rw [if_neg h]
theorem Ext.merge_l {ιd ι1 : Inj} {a b : Nat} (h : ∀ id, a ≤ id → id < b → ιd id = none) : Ext ιd (mergeI ιd ι1 a b) := by
  intro id l hl
  rw [mergeI_out]; exact hl
  intro x; rw [h id x.1 x.2] at hl; cases hl

theorem SRel.shift {ι : Inj} {h : T AObj} {n n' lo lo' : Nat} {w : World} (k : SRel P ι ⟨h, n, lo⟩ w) (hle : n ≤ n') : SRel P ι ⟨h, n', lo'⟩ w :=
  ⟨k.obj, fun id hi => k.fresh id (Nat.le_trans hle hi), k.bound, k.alias, k.par⟩

/-- what a round comes to -/
structure Rnd (P : Program) (ι : Inj) (h0 : T AObj) (n : Nat) (w : World) (X : Nat) (ι2 : Inj) (s2 : S) (w2 : World) : Prop where
  ext : Ext ι ι2
  keep : ∀ id, id < n → ι id = none → ι2 id = none
  new : ∀ id l, ι id = none → ι2 id = some l → w.heap.size ≤ l.blk
  heap : ∀ b, b < w.heap.size → b ≠ X → ¬ Owned ι ⟨h0, n, n⟩ b → w2.heap[b]? = w.heap[b]?
  low : ∀ id, id < n → s2.h.get id = h0.get id
  size : w.heap.size ≤ w2.heap.size
  os : w2.os = w.os
  out : w2.output = w.output
  tape : w2.tape = w.tape
  srel : SRel P ι2 s2 w2

theorem finish_nt {fr fr2 : Fr} {v : Value} (h : finish fr v = some fr2) : True := trivial

theorem keyOk_kind {kk kk' : KeyKind} {x : Value} (h : keyOk kk x = true) (h' : keyOk kk' x = true) : kk = kk' := by
  cases kk with
  | int k =>
    cases x with
    | int a n =>
      cases kk' with
      | int k' =>
        simp only [keyOk, kindEq, decide_eq_true_eq] at h h'
        rw [h, h']
      | str => simp [keyOk] at h'
    | _ => simp [keyOk] at h
  | str =>
    cases x with
    | string s =>
      cases kk' with
      | int k' => simp [keyOk] at h'
      | str => rfl
    | _ => simp [keyOk] at h

theorem putK_new {kk : KeyKind} {k v : Value} (hk : keyOk kk k = true) : ∀ {es : List (Value × Value)}, (∀ q ∈ es, keyOk kk q.1 = true) → (∀ q ∈ es, KeyNe k q.1) → putK kk k v es = some (true, es ++ [(k, v)])
  | [], _, _ => rfl
  | (k', v') :: es, h1, h2 => by
    obtain ⟨b, _, e2, e3, e4⟩ := key_spec hk (h1 (k', v') (by simp))
    have hne : k ≠ k' := (h2 (k', v') (by simp)).ne
    have hb : b = false := by
      cases b with
      | false => rfl
      | true => exact absurd (e3.1 rfl) hne
    subst hb
    simp only [putK, e2]
    rw [putK_new hk (fun q hq => h1 q (by simp [hq])) (fun q hq => h2 q (by simp [hq]))]
    rfl

theorem round_ok (hK : KnownOk P K w0) (hmix : P.follows .mixedOrders = true) {fn nt : Nat} {g0 : T Value} {p : Pat} {h0 : T AObj} {m0 : Nat} {kk : KeyKind} {r : RD} (hr : RdOk2 P K fn nt g0 p h0 m0 kk r)
    {ι : Inj} {w : World} {lm0 : Loc} {kind : CallKind} {tmps tmps0 : Array Value} {ds' : List Deferred} {cs : List Frame} {Kin : List Item}
    (hS : SRel P ι ⟨h0, r.nx, r.nx⟩ w) (hini : Ini w0 ι ⟨h0, r.nx, r.nx⟩ w) (hX0 : w0.heap.size ≤ lm0.blk) (hdead : ∀ id l o, ι id = some l → l.blk = lm0.blk → h0.get id = some o → id ≠ m0 → Dead o)
    (him0 : ι m0 = some lm0) (hgm0 : h0.get m0 = some .hole) (hm0 : m0 < r.nx) (hfunc : ∃ f, P.funcs[fn]? = some f) (hops : p.all.toList.drop 1 = p.ops) (hal : 1 ≤ p.all.size)
    (ht : TmpRel ι (startG p g0 r.k r.v) tmps) (hn : tmps.size = nt) (ht0 : TmpRel ι g0 tmps0) (hn0 : tmps0.size = nt)
    -- the map that is stored into
    {ιd : Inj} {esd : List (Value × Value)} {dclk : Nat} {dE : Array MapEntry} (hdm : w.heap[lm0.blk]? = some (.map dE dclk)) (hdr : ORel P ιd lm0 (.map esd dclk) (.map dE dclk)) (hιd : Ext ι ιd)
    (hιn : ∀ id, r.nx ≤ id → id < r.nx' → ιd id = none) (hks : ∀ q ∈ esd, keyOk kk q.1 = true) (hnew : ∀ q ∈ esd, KeyNe r.kx q.1) :
    ∃ ι2 s2 w2 tmps', Steps P (lone (mkF fn kind tmps ds' (.inRegion p.all (List.range' 1 (p.all.size - 1)) :: .code p.rest :: Kin)) cs w) (lone (mkF fn kind tmps' ds' Kin) cs w2) ∧
      Rnd P ι h0 r.nx w lm0.blk ι2 s2 w2 ∧ s2.h = r.h1 ∧ s2.nx = r.nx' ∧ TmpRel ι g0 tmps' ∧ tmps'.size = nt ∧
      ∃ dE', w2.heap[lm0.blk]? = some (.map dE' (dclk + 1)) ∧ ORel P (mergeI ιd ι2 r.nx r.nx') lm0 (.map (esd ++ [(r.kx, r.x)]) (dclk + 1)) (.map dE' (dclk + 1)) := by
  obtain ⟨hr, hkk⟩ := hr
  let B : Base := ⟨⟨Kin, ds', none, some (fn, nt, kind)⟩, r.nx, cs⟩
  have hfr : ∀ id, r.nx ≤ id → ι id = none := fun id hi => hS.fresh id hi
  have hR0 : RSt P B w0 ι r.nx B.sf (startFr P fn nt p g0 r.k r.v) [] ⟨h0, r.nx, r.nx⟩ (mkF fn kind tmps ds' (.inRegion p.all (List.range' 1 (p.all.size - 1)) :: .code p.rest :: Kin)) cs w := by
    refine ⟨.base, ⟨rfl, hfunc, rfl, rfl, ⟨nofun, fun q hq => by cases hq; exact ⟨rfl, rfl, rfl⟩⟩, hn, .nil, .run, fun _ => .plain ht ?_, fun x => absurd rfl x⟩, hS, Nat.le_refl _, Nat.le_refl _, hini⟩
    simp only [startFr]
    rw [← hops]
    exact .cons (.ops p.all 1 hal) (.cons (.code p.rest) .nil)
  simp only [round1] at hr
  have h1 := runB_ok hK hmix 2000 hR0
  cases hb1 : runB P K 2000 ⟨[startFr P fn nt p g0 r.k r.v], ⟨h0, r.nx, r.nx⟩⟩ with
  | next _ => simp [hb1] at hr
  | idle _ _ => simp [hb1] at hr
  | stop _ _ => simp [hb1] at hr
  | bad _ => simp [hb1] at hr
  | upd fr s1 r0 kx x =>
    rw [hb1] at h1 hr
    simp only [] at hr
    obtain ⟨ι1, w1, kind1, tmps1, ds1, todo1, all1, i1, L1, o1, st1, S1, lo1, hb1', ini1, F1, at1, wait1⟩ := h1
    cases hrm : Nat.beq r0 m0 with
    | false => simp [hrm] at hr
    | true =>
      have := Nat.eq_of_beq_eq_true hrm; subst this
      simp only [hrm, cond_true] at hr
      cases hfi : finish fr und with
      | none => simp [hfi] at hr
      | some fr2 =>
        simp only [hfi] at hr
        -- the store
        obtain ⟨t, kt, et, kk', l, k', x', hu, hkk', hkok, hil, hvk, hvx, hnt, hg1, hexec⟩ := at1.post s1.nx (Nat.le_refl _)
        have hl : l = lm0 := by have := F1.ext _ _ him0; rw [this] at hil; cases hil; rfl
        subst hl
        have hno : ¬ Owned ι ⟨h0, r.nx, r.nx⟩ l.blk := by
          rintro ⟨id, l2, o2, a1, a2, a3, a4⟩
          by_cases e : id = r0
          · subst e; rw [hgm0] at a3; cases a3; exact a4
          · have := hdead id l2 o2 a1 a2 a3 e
            cases o2 with
            | blk b => simp only [Dead] at this; simp only [NotHole] at a4; omega
            | _ => exact this
        have hltX : l.blk < w.heap.size := hS.bound _ _ him0
        have hdm1 : w1.heap[l.blk]? = some (.map dE dclk) := by rw [F1.heap _ hltX hno]; exact hdm
        -- what the two say of the map
        have hnx1 := F1.nx
        have hlow1 : s1.lo = r.nx := F1.lo
        let ιM := mergeI ιd ι1 r.nx s1.nx
        obtain ⟨e1, e2, hnle⟩ : kx = r.kx ∧ x = r.x ∧ s1.nx ≤ r.nx' := by
          revert hr
          cases hb2 : runB P K 2000 ⟨[fr2], s1⟩ with
          | idle fr3 s2 =>
            intro hr
            obtain ⟨fa, fb, g1, fc, fd, fe, ff, fg⟩ := fr3
            cases fd with
            | cons _ _ => simp at hr
            | nil =>
              simp only [] at hr
              cases hkp : keptT g0 g1 nt && Nat.ble s1.nx s2.nx with
              | false => rw [hkp] at hr; cases hr
              | true =>
                rw [hkp] at hr
                simp only [cond_true, Option.some.injEq, Prod.mk.injEq] at hr
                simp only [Bool.and_eq_true, Nat.ble_eq] at hkp
                exact ⟨hr.2.2.1, hr.2.2.2, by omega⟩
          | _ => intro hr; simp at hr
        subst e1 e2
        have hkeq := keyOk_kind hkok hkk
        subst hkeq
        have hx1 : Ext ιd ιM := Ext.merge_l (fun id a b => hιn id a (by omega))
        have hx2 : Ext ι1 ιM := by
          intro id ll hll
          by_cases hin : r.nx ≤ id ∧ id < s1.nx
          · show mergeI ιd ι1 r.nx s1.nx id = some ll
            rw [mergeI_in hin]; exact hll
          · show mergeI ιd ι1 r.nx s1.nx id = some ll
            rw [mergeI_out hin]
            by_cases hlt : id < r.nx
            · cases hi : ι id with
              | none => rw [(F1.keep id hlt hi).1] at hll; cases hll
              | some l3 =>
                have := F1.ext _ _ hi; rw [this] at hll; cases hll
                exact hιd _ _ hi
            · rw [S1.fresh id (by omega)] at hll; cases hll
        have hk'e : k' = r.kx := keyOk_vrel hkok hvk
        subst hk'e
        have hput := putK_new (v := r.x) hkok hks hnew
        have hdrM := hdr.mono hx1
        cases hdrM with
        | map q1 q2 q3 q4 q5 =>
          obtain ⟨res, f1, f2, f3⟩ := map_put_rel (P := P) (v' := x') hkok hput q1 q2 q3 q4 q5 (hvx.mono hx2) hkk' w1 l
          obtain ⟨w2, u1, u2⟩ := run_mapUpdate (P := P) hu hkk' (x := x') hkok hdm1 f1 f2
          generalize hpo : putObj res dE dclk r.kx x' = ob at f3 u2
          have hrun := hexec w1
          rw [u1] at hrun
          have hst2 := st_value (fn := fr.fn) (kind := kind1) (ds := ds1) (L := L1) (k := todo1) (cs := cs) at1.op at1.wanted (v := undef) (.inr ⟨hrun, rfl⟩)
          -- the state behind it
          have S2 : SRel P ι1 s1 w2 := by
            refine S1.touch u2 ?_
            intro id l2 o2 a1 a2 a3
            by_cases e : id = r0
            · subst e; rw [hg1] at a3; cases a3
              rw [hil] at a1; cases a1
              cases f3 with
              | map => exact .hole
            · by_cases hlt : id < r.nx
              · cases hi : ι id with
                | none => rw [(F1.keep id hlt hi).1] at a1; cases a1
                | some l3 =>
                  have := F1.ext _ _ hi; rw [this] at a1; cases a1
                  have hlow := F1.low id hlt
                  rw [hlow] at a3
                  have := hdead id l2 o2 hi a2 a3 e
                  cases o2 with
                  | blk b => obtain ⟨bc, bn, be, bp, bst⟩ := b; exact .dead _ this
                  | _ => exact absurd this (by simp [Dead])
              · exfalso
                have hin := hfr id (by omega)
                rcases F1.new id l2 hin a1 with y | ⟨id3, l3, o3, z1, z2, _⟩
                · omega
                · rw [hfr id3 z1] at z2; cases z2
          have ini2 : Ini w0 ι1 s1 w2 := by
            refine ⟨by rw [u2.size]; exact ini1.size, fun b hb => ?_, ini1.own, by rw [u2.out]; exact ini1.out, by rw [u2.os]; exact ini1.os, by rw [u2.tape]; exact ini1.tape⟩
            rw [u2.other b (by omega)]; exact ini1.same b hb
          have hT2 := (wait1 ι1 s1 (Fut.refl _ _ _)).1 und undef fr2 (.tuple .nil) hfi
          rw [fin_eq at1.op] at hT2
          have hR2 : RSt P B w0 ι1 r.nx B.sf fr2 [] s1 (mkF fr.fn kind1 (pt tmps1 o1.dst undef) ds1 (.inRegion all1 L1 :: todo1)) cs w2 := ⟨.base, hT2, S2, hb1', lo1, ini2⟩
          have h2 := runB_ok hK hmix 2000 hR2
          cases hb2 : runB P K 2000 ⟨[fr2], s1⟩ with
          | next _ => simp [hb2] at hr
          | upd _ _ _ _ _ => simp [hb2] at hr
          | stop _ _ => simp [hb2] at hr
          | bad _ => simp [hb2] at hr
          | idle fr3 s2 =>
            rw [hb2] at h2 hr
            obtain ⟨ι2, top, w3, e3, e4, st3, R3, F2⟩ := h2
            obtain ⟨fa, fb, g1, fc, fd, fe, ff, fg⟩ := fr3
            cases fd with
            | cons _ _ => simp at hr
            | nil =>
              simp only [] at hr
              cases hkp : keptT g0 g1 nt && Nat.ble s1.nx s2.nx with
              | false => rw [hkp] at hr; cases hr
              | true =>
                rw [hkp] at hr
                simp only [cond_true, Option.some.injEq, Prod.mk.injEq] at hr
                simp only [Bool.and_eq_true, Nat.ble_eq] at hkp
                obtain ⟨hkp, _⟩ := hkp
                obtain ⟨er1, er2, _, _⟩ := hr
                simp only at e3 e4
                subst e3 e4
                have T3 := R3.top
                obtain ⟨k1, k2, k3⟩ := T3.kind.2 _ rfl
                simp only at k1 k2
                subst k1 k2
                have hmode : top.mode = .run := by
                  have := T3.mode
                  generalize top.mode = mm at this
                  cases this; rfl
                have htd : top.todo = Kin ∧ TmpRel ι2 g1 top.tmps := by
                  have := T3.body rfl
                  simp only at this
                  generalize top.todo = td at this
                  cases this with
                  | plain a b => cases b; exact ⟨rfl, a⟩
                have hdd : top.defers = ds' := by
                  have := T3.defers
                  generalize top.defers = td at this
                  cases this; rfl
                have htop : top = mkF fa kind top.tmps ds' Kin := by
                  have := frame_eta top hmode T3.rnd'
                  rw [T3.fn, k3, hdd, htd.1] at this
                  exact this
                rw [htop] at st3
                have hxx : Ext ι ι2 := F1.ext.trans F2.ext
                have hs1sz : w1.heap.size = w2.heap.size := u2.size.symm
                refine ⟨ι2, s2, w3, top.tmps, st1.trans (.head hst2 st3), ?_, er1, er2, ?_, T3.size, ?_⟩
                · refine ⟨hxx, fun id hi hn => (F2.keep id hi (F1.keep id hi hn).1).1, ?_, ?_, ?_, ?_, ?_, ?_, ?_, R3.srel⟩
                  · intro id ll hn hs
                    cases hi1 : ι1 id with
                    | some l1 =>
                      have := F2.ext _ _ hi1; rw [this] at hs; cases hs
                      rcases F1.new id ll hn hi1 with y | ⟨id3, l3, o3, z1, z2, _⟩
                      · exact y
                      · rw [hfr id3 z1] at z2; cases z2
                    | none =>
                      have hsz := F1.size
                      rcases F2.new id ll hi1 hs with y | ⟨id3, l3, o3, z1, z2, z3, _⟩
                      · omega
                      · rw [hlow1] at z1
                        rw [← z3]
                        rcases F1.new id3 l3 (hfr id3 z1) z2 with y | ⟨id4, l4, o4, y1, y2, _⟩
                        · exact y
                        · rw [hfr id4 y1] at y2; cases y2
                  · intro b hb hne hno2
                    have hsz := F1.size
                    have hno1 : ¬ Owned ι1 s1 b := fun hh => hno2 (F1.own b hb hh)
                    rw [F2.heap b (by omega) hno1, u2.other b hne, F1.heap b hb hno2]
                  · intro id hi
                    rw [F2.low id (by omega), F1.low id hi]
                  · have := F1.size; have := F2.size; omega
                  · rw [F2.os, u2.os, F1.os]
                  · rw [F2.out, u2.out, F1.out]
                  · rw [F2.tape, u2.tape, F1.tape]
                · exact kept_rel hxx hn0 T3.size ht0 htd.2 hkp
                · have hno1 : ¬ Owned ι1 s1 l.blk := fun hh => hno (F1.own _ hltX hh)
                  have hsz := F1.size
                  have hobj : w3.heap[l.blk]? = w2.heap[l.blk]? := F2.heap _ (by omega) hno1
                  have hxM : Ext ιM (mergeI ιd ι2 r.nx r.nx') := by
                    intro id ll hll
                    have hnx2 := F2.nx
                    have hll' : mergeI ιd ι1 r.nx s1.nx id = some ll := hll
                    by_cases hin : r.nx ≤ id ∧ id < s1.nx
                    · rw [mergeI_in hin] at hll'
                      rw [mergeI_in (by omega)]
                      exact F2.ext _ _ hll'
                    · rw [mergeI_out hin] at hll'
                      rw [mergeI_out]
                      · exact hll'
                      · intro hin2
                        rw [hιn id hin2.1 hin2.2] at hll'; cases hll'
                  have hfin := f3.mono hxM
                  have hat := u2.at_
                  simp only [cond_true] at hfin
                  cases hfin with
                  | map a1 a2 a3 a4 a5 =>
                    exact ⟨_, by rw [hobj]; exact hat, .map a1 a2 a3 a4 a5⟩

end Go.AM
