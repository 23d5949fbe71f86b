/- Loops over maps: a round joins the others. -/
import Derived.Test.YteoodndfkdfnaaaGreatDoorAmLoopC
namespace Go.AM
variable {P : Program} {K : Known} {w0 : World}
variable {fn nt : Nat} {g0 : T Value} {p : Pat} {ι : Inj} {s : S} {ws : World} {r m m0 : Nat} {lr lm lm0 : Loc} {c c0 : Nat} {srcE : Array MapEntry} {es0 : List (Value × Value)} {kk : KeyKind} {Z : List (RD × MapEntry)} {nxE : Nat}

theorem LI.step (h : LCtx P K w0 fn nt g0 p ι s ws r m m0 lr lm lm0 c c0 srcE es0 kk Z nxE) {Zd A B : List (RD × MapEntry)} {z : RD × MapEntry} (hp : (Zd ++ (A ++ z :: B)).Perm Z) {ιd : Inj} {hd : T AObj} {w : World} {tmps : Array Value}
    (hL : LI P g0 nt ι s ws r m m0 lr lm c c0 srcE es0 nxE Zd ιd hd w tmps) {wa : World} (hput : WPut w wa lr.blk (.mapIter (some lm.blk) c ((Zd.map (·.2.born)).toArray.push z.2.born) c))
    {ι2 : Inj} {s2 : S} {w2 : World} {tmps' : Array Value} (hR : Rnd P ι (innerH s.h r m m0) z.1.nx wa lm0.blk ι2 s2 w2) (hs2 : s2.h = z.1.h1) (hn2 : s2.nx = z.1.nx') (ht : TmpRel ι g0 tmps') (hsz : tmps'.size = nt)
    {dE' : Array MapEntry} (hd1 : w2.heap[lm0.blk]? = some (.map dE' (c0 + Zd.length + 1)))
    (hd2 : ORel P (mergeI ιd ι2 z.1.nx z.1.nx') lm0 (.map ((es0 ++ newEs (Zd.map (·.1))) ++ [(z.1.kx, z.1.x)]) (c0 + Zd.length + 1)) (.map dE' (c0 + Zd.length + 1))) :
    LI P g0 nt ι s ws r m m0 lr lm c c0 srcE es0 nxE (Zd ++ [z]) (mergeI ιd ι2 z.1.nx z.1.nx')
      ((copyR z.1.h1 (z.1.nx' - z.1.nx) z.1.nx hd).set m0 (.map ((es0 ++ newEs (Zd.map (·.1))) ++ [(z.1.kx, z.1.x)]) (c0 + Zd.length + 1))) w2 tmps' := by
  obtain ⟨hza, hzb, hzc, hzd⟩ := h.apart hp
  obtain ⟨es, hm⟩ := h.gm
  have hm0lt := h.lt_nx h.im0
  have hmlt := h.lt_nx h.im
  have hrlt := h.lt_nx h.ir
  -- the new heap
  have hget : ∀ id, ((copyR z.1.h1 (z.1.nx' - z.1.nx) z.1.nx hd).set m0 (.map ((es0 ++ newEs (Zd.map (·.1))) ++ [(z.1.kx, z.1.x)]) (c0 + Zd.length + 1))).get id =
      if id = m0 then some (.map ((es0 ++ newEs (Zd.map (·.1))) ++ [(z.1.kx, z.1.x)]) (c0 + Zd.length + 1)) else if z.1.nx ≤ id ∧ id < z.1.nx' then z.1.h1.get id else hd.get id := by
    intro id
    rw [T.get_set, copyR_get]
    have : (z.1.nx ≤ id ∧ id < z.1.nx + (z.1.nx' - z.1.nx)) ↔ (z.1.nx ≤ id ∧ id < z.1.nx') := by omega
    simp only [this]
  generalize (copyR z.1.h1 (z.1.nx' - z.1.nx) z.1.nx hd).set m0 (.map ((es0 ++ newEs (Zd.map (·.1))) ++ [(z.1.kx, z.1.x)]) (c0 + Zd.length + 1)) = hd' at hget ⊢
  -- nothing is known in the range before
  have hnone : ∀ id, z.1.nx ≤ id → id < z.1.nx' → ιd id = none := by
    intro id ha hb
    cases hi : ιd id with
    | none => rfl
    | some l =>
      exfalso
      obtain ⟨_, y, hy, y1, y2⟩ := hL.hi id l (by omega) hi
      have := (hzd y hy).2.2.2
      omega
  have hxd : Ext ιd (mergeI ιd ι2 z.1.nx z.1.nx') := Ext.merge_l hnone
  have hιd : Ext ι ιd := fun id l hl => by rw [hL.low id (h.lt_nx hl)]; exact hl
  have hx2 : Ext ι2 (mergeI ιd ι2 z.1.nx z.1.nx') := by
    intro id l hl
    by_cases hin : z.1.nx ≤ id ∧ id < z.1.nx'
    · rw [mergeI_in hin]; exact hl
    · rw [mergeI_out hin]
      by_cases hlt : id < z.1.nx
      · cases hi : ι id with
        | none => rw [hR.keep id hlt hi] at hl; cases hl
        | some l3 => have := hR.ext _ _ hi; rw [this] at hl; cases hl; exact hιd _ _ hi
      · rw [hR.srel.fresh id (by omega)] at hl; cases hl
  have hsz1 : wa.heap.size = w.heap.size := hput.size
  have hszs := hL.size
  have hszr := hR.size
  have blt : ∀ {a : Nat} {l : Loc}, ι a = some l → l.blk < ws.heap.size := fun hi => h.srel.bound _ _ hi
  have hX := blt h.im0
  have hbr := blt h.ir
  have hbm := blt h.im
  -- blocks that stand
  have hkeep : ∀ b, b < w.heap.size → b ≠ lm0.blk → b ≠ lr.blk → ¬ Owned ι ⟨innerH s.h r m m0, z.1.nx, z.1.nx⟩ b → w2.heap[b]? = w.heap[b]? := by
    intro b hb h1 h2 h3
    rw [hR.heap b (by omega) h1 h3, hput.other b h2]
  have hlr2 : w2.heap[lr.blk]? = wa.heap[lr.blk]? := hR.heap _ (by omega) h.blk_rm0 (h.not_owned (.inl rfl))
  have hlm2 : w2.heap[lm.blk]? = w.heap[lm.blk]? := hkeep _ (by omega) h.blk_mm0 h.blk_rm.symm (h.not_owned (.inr (.inl rfl)))
  -- the old state in the new world
  have innA : SRel P ι ⟨innerH s.h r m m0, s.nx, s.nx⟩ wa := by
    refine hL.inner.touch hput ?_
    intro id l o hi hl hg
    rcases h.inner_dead (.inl rfl) hi hl hg with e | e
    · exfalso
      subst e
      simp only at hg
      rw [innerH_get] at hg
      by_cases e1 : id = m0
      · subst e1; rw [h.im0] at hi; cases hi; exact h.blk_rm0 hl.symm
      · rw [if_neg e1] at hg
        by_cases e2 : id = m
        · subst e2; rw [h.im] at hi; cases hi; exact h.blk_rm hl.symm
        · rw [if_neg e2] at hg
          by_cases e3 : id = r
          · rw [if_pos e3] at hg; cases hg
          · rw [if_neg e3] at hg
            have := h.srel.alone h.ir hi (Ne.symm e3) hl.symm h.gr hg (by intro x; simp)
            simp [Dead] at this
    · cases o with
      | blk b => obtain ⟨bc, bn, be, bp, bst⟩ := b; exact .dead _ e
      | _ => exact absurd e (by simp [Dead])
  have inn2 : SRel P ι ⟨innerH s.h r m m0, s.nx, s.nx⟩ w2 := by
    refine innA.restrict hR.srel hR.ext (fun id hi => ?_) hR.size
    obtain ⟨l, hl⟩ := Option.ne_none_iff_exists'.1 hi
    exact hR.low id (by have := h.lt_nx hl; omega)
  -- where an id stands
  have hcase : ∀ id l, mergeI ιd ι2 z.1.nx z.1.nx' id = some l → (id < s.nx ∧ ι id = some l) ∨ (s.nx ≤ id ∧ ¬ (z.1.nx ≤ id ∧ id < z.1.nx') ∧ ιd id = some l ∧ ws.heap.size ≤ l.blk) ∨ (z.1.nx ≤ id ∧ id < z.1.nx' ∧ ι2 id = some l ∧ w.heap.size ≤ l.blk) := by
    intro id l hl
    by_cases hin : z.1.nx ≤ id ∧ id < z.1.nx'
    · rw [mergeI_in hin] at hl
      have := hR.new id l (h.srel.fresh id (by omega)) hl
      exact .inr (.inr ⟨hin.1, hin.2, hl, by omega⟩)
    · rw [mergeI_out hin] at hl
      by_cases hlt : id < s.nx
      · rw [hL.low id hlt] at hl; exact .inl ⟨hlt, hl⟩
      · exact .inr (.inl ⟨by omega, hin, hl, (hL.hi id l (by omega) hl).1⟩)
  have hnolate : ∀ b n lo, ws.heap.size ≤ b → ¬ Owned ι ⟨innerH s.h r m m0, n, lo⟩ b := by
    rintro b n lo hb ⟨id, l, o, a1, a2, _⟩
    have := blt a1; omega
  refine ⟨⟨?_, ?_, ?_, ?_, ?_⟩, inn2, ?_, ?_, ?_, ?_, ?_, ?_, ?_, by rw [hlm2]; exact hL.src, ?_, by omega, by rw [hR.os, hput.os, hL.os], by rw [hR.out, hput.out, hL.out], by rw [hR.tape, hput.tape, hL.tape], ht, hsz⟩
  · -- obj
    intro id l o hi hg
    simp only at hg
    rw [hget] at hg
    by_cases e0 : id = m0
    · subst e0
      rw [if_pos rfl] at hg; cases hg
      have : l = lm0 := by
        rw [mergeI_out (by omega), hL.low _ hm0lt, h.im0] at hi; cases hi; rfl
      subst this
      exact ⟨_, hd1, hd2⟩
    · rw [if_neg e0] at hg
      rcases hcase id l hi with ⟨a1, a2⟩ | ⟨a1, a2, a3, a4⟩ | ⟨a1, a2, a3, a4⟩
      · rw [if_neg (by omega)] at hg
        have hgd := hg
        by_cases er : id = r
        · subst er; rw [hL.getr] at hg; cases hg
        · rw [hL.get id a1 er e0] at hg
          by_cases em : id = m
          · subst em
            obtain ⟨o', b1, b2⟩ := hL.srel.obj id l o (by rw [hL.low id a1]; exact a2) hgd
            rw [h.im] at a2; cases a2
            exact ⟨o', by rw [hlm2]; exact b1, b2.mono hxd⟩
          · obtain ⟨o', b1, b2⟩ := inn2.obj id l o a2 (by simp only; rw [innerH_get, if_neg e0, if_neg em, if_neg er]; exact hg)
            exact ⟨o', b1, (b2.mono hιd).mono hxd⟩
      · rw [if_neg a2] at hg
        obtain ⟨o', b1, b2⟩ := hL.srel.obj id l o a3 hg
        have hlt := hL.srel.bound id l a3
        refine ⟨o', ?_, b2.mono hxd⟩
        rw [hkeep l.blk hlt (by omega) (by omega) (hnolate _ _ _ a4)]; exact b1
      · rw [if_pos ⟨a1, a2⟩, ← hs2] at hg
        obtain ⟨o', b1, b2⟩ := hR.srel.obj id l o a3 hg
        exact ⟨o', b1, b2.mono hx2⟩
  · intro id hi
    have hi' : nxE ≤ id := hi
    rw [mergeI_out (by omega)]
    exact hL.srel.fresh id hi
  · intro id l hi
    rcases hcase id l hi with ⟨a1, a2⟩ | ⟨a1, a2, a3, a4⟩ | ⟨a1, a2, a3, a4⟩
    · have := blt a2; omega
    · have := hL.srel.bound id l a3; omega
    · exact hR.srel.bound id l a3
  · -- alias
    have hbnd : ∀ id l, s.nx ≤ id → ιd id = some l → l.blk < w.heap.size := fun id l _ hl => hL.srel.bound id l hl
    -- objects outside the range
    have hold : ∀ id o, ¬ (z.1.nx ≤ id ∧ id < z.1.nx') → hd'.get id = some o → (id = m0 ∧ ∃ es' k', o = .map es' k') ∨ (id ≠ m0 ∧ hd.get id = some o) := by
      intro id o hn hg
      rw [hget] at hg
      by_cases e0 : id = m0
      · rw [if_pos e0] at hg; cases hg; exact .inl ⟨e0, _, _, rfl⟩
      · rw [if_neg e0, if_neg hn] at hg; exact .inr ⟨e0, hg⟩
    have hout : ∀ id1 id2 l1 l2 o1 o2, id1 ≠ id2 → ιd id1 = some l1 → ιd id2 = some l2 → l1.blk = l2.blk → ¬ (z.1.nx ≤ id1 ∧ id1 < z.1.nx') → ¬ (z.1.nx ≤ id2 ∧ id2 < z.1.nx') → hd'.get id1 = some o1 → hd'.get id2 = some o2 →
        Dead o1 ∨ Dead o2 ∨ Par o1 id2 ∨ Par o2 id1 := by
      intro id1 id2 l1 l2 o1 o2 hne i1 i2 hbl n1 n2 g1 g2
      rcases hold id1 o1 n1 g1 with ⟨rfl, es', k', rfl⟩ | ⟨e1, g1'⟩
      · rcases hold id2 o2 n2 g2 with ⟨e, _⟩ | ⟨e2, g2'⟩
        · exact absurd e.symm hne
        · exact .inr (.inl (hL.srel.alone i1 i2 hne hbl hL.getm0 g2' (by intro x; simp)))
      · rcases hold id2 o2 n2 g2 with ⟨rfl, es', k', rfl⟩ | ⟨e2, g2'⟩
        · exact .inl (hL.srel.alone i2 i1 (Ne.symm hne) hbl.symm hL.getm0 g1' (by intro x; simp))
        · exact hL.srel.alias id1 id2 l1 l2 o1 o2 hne i1 i2 hbl g1' g2'
    have toD : ∀ id l, (id < s.nx ∧ ι id = some l) ∨ (s.nx ≤ id ∧ ¬ (z.1.nx ≤ id ∧ id < z.1.nx') ∧ ιd id = some l ∧ ws.heap.size ≤ l.blk) → ιd id = some l ∧ ¬ (z.1.nx ≤ id ∧ id < z.1.nx') ∧ l.blk < w.heap.size := by
      rintro id l (⟨a1, a2⟩ | ⟨a1, a2, a3, a4⟩)
      · exact ⟨by rw [hL.low id a1]; exact a2, by omega, by have := blt a2; omega⟩
      · exact ⟨a3, a2, hbnd id l a1 a3⟩
    intro id1 id2 l1 l2 o1 o2 hne i1 i2 hbl g1 g2
    simp only at g1 g2
    have c1 := hcase id1 l1 i1
    have c2 := hcase id2 l2 i2
    rw [← or_assoc] at c1 c2
    rcases c1 with c1 | ⟨a1, a2, a3, a4⟩
    · obtain ⟨d1, d2, d3⟩ := toD id1 l1 c1
      rcases c2 with c2 | ⟨b1, b2, b3, b4⟩
      · obtain ⟨f1, f2, f3⟩ := toD id2 l2 c2
        exact hout id1 id2 l1 l2 o1 o2 hne d1 f1 hbl d2 f2 g1 g2
      · omega
    · rcases c2 with c2 | ⟨b1, b2, b3, b4⟩
      · obtain ⟨f1, f2, f3⟩ := toD id2 l2 c2
        omega
      · rw [hget, if_neg (by omega), if_pos ⟨a1, a2⟩, ← hs2] at g1
        rw [hget, if_neg (by omega), if_pos ⟨b1, b2⟩, ← hs2] at g2
        exact hR.srel.alias id1 id2 l1 l2 o1 o2 hne a3 b3 hbl g1 g2
  · -- par
    intro id o q hg hi hdd hpp
    simp only at hg
    rw [hget] at hg
    by_cases e0 : id = m0
    · rw [if_pos e0] at hg; cases hg; simp [Par] at hpp
    · rw [if_neg e0] at hg
      obtain ⟨l, hl⟩ := Option.ne_none_iff_exists'.1 hi
      by_cases hin : z.1.nx ≤ id ∧ id < z.1.nx'
      · rw [if_pos hin, ← hs2] at hg
        rw [mergeI_in hin] at hl
        obtain ⟨y1, y2⟩ := hR.srel.par id o q hg (by rw [hl]; simp) hdd hpp
        obtain ⟨lq, hlq⟩ := Option.ne_none_iff_exists'.1 y1
        refine ⟨by rw [hx2 _ _ hlq]; simp, fun o' ho' => ?_⟩
        simp only at ho'
        rw [hget] at ho'
        have hlow : q < z.1.nx → s2.h.get q = (innerH s.h r m m0).get q := fun hlt => hR.low q hlt
        by_cases e1 : q = m0
        · exfalso
          have := hlow (by omega)
          rw [innerH_get, if_pos e1] at this
          obtain ⟨b, e, _⟩ := y2 _ this; cases e
        · rw [if_neg e1] at ho'
          by_cases hqin : z.1.nx ≤ q ∧ q < z.1.nx'
          · rw [if_pos hqin, ← hs2] at ho'; exact y2 o' ho'
          · rw [if_neg hqin] at ho'
            -- q is an old one
            have hq : q < s.nx := by
              rcases hcase q lq (hx2 _ _ hlq) with ⟨a1, _⟩ | ⟨a1, a2, a3, a4⟩ | ⟨a1, a2, _⟩
              · exact a1
              · exfalso
                rcases Nat.lt_or_ge q z.1.nx with x | x
                · rw [hR.keep q x (h.srel.fresh q a1)] at hlq; cases hlq
                · rw [hR.srel.fresh q (by omega)] at hlq; cases hlq
              · exact absurd ⟨a1, a2⟩ hqin
            by_cases er : q = r
            · rw [er, hL.getr] at ho'; cases ho'
            · by_cases em : q = m
              · exfalso
                have := hlow (by omega)
                rw [innerH_get, if_neg e1, if_pos em] at this
                obtain ⟨b, e, _⟩ := y2 _ this; cases e
              · rw [hL.get q hq er e1] at ho'
                refine y2 o' ?_
                rw [hlow (by omega), innerH_get, if_neg e1, if_neg em, if_neg er]; exact ho'
      · rw [if_neg hin] at hg
        rw [mergeI_out hin] at hl
        obtain ⟨y1, y2⟩ := hL.srel.par id o q hg (by rw [hl]; simp) hdd hpp
        obtain ⟨lq, hlq⟩ := Option.ne_none_iff_exists'.1 y1
        refine ⟨by rw [hxd _ _ hlq]; simp, fun o' ho' => ?_⟩
        simp only at ho'
        rw [hget] at ho'
        by_cases e1 : q = m0
        · exfalso
          obtain ⟨b, e, _⟩ := y2 _ (by rw [e1]; exact hL.getm0); cases e
        · rw [if_neg e1, if_neg] at ho'
          · exact y2 o' ho'
          · rintro ⟨x1, x2⟩
            rw [hnone q x1 x2] at hlq; cases hlq
  · intro id hi; rw [mergeI_out (by omega)]; exact hL.low id hi
  · intro id hi hr hm0; rw [hget, if_neg hm0, if_neg (by omega)]; exact hL.get id hi hr hm0
  · rw [hget, if_neg h.rm0, if_neg (by omega)]; exact hL.getr
  · rw [hget, if_pos rfl]; simp [newEs, Nat.add_assoc]
  · intro id l hi hs
    by_cases hin : z.1.nx ≤ id ∧ id < z.1.nx'
    · rw [mergeI_in hin] at hs
      have := hR.new id l (h.srel.fresh id (by omega)) hs
      exact ⟨by omega, z, by simp, hin⟩
    · rw [mergeI_out hin] at hs
      obtain ⟨a1, y, hy, a2⟩ := hL.hi id l hi hs
      exact ⟨a1, y, by simp [hy], a2⟩
  · intro y hy id ha hb
    rw [hget]
    rcases List.mem_append.1 hy with hy | hy
    · have := hzd y hy
      rw [if_neg (by omega), if_neg (by omega)]
      exact hL.own y hy id ha hb
    · simp only [List.mem_singleton] at hy; subst hy
      rw [if_neg (by omega), if_pos ⟨ha, hb⟩]
  · rw [hlr2, hput.at_]; simp
  · intro b hb hno
    have h1 : b ≠ lm0.blk := fun e => hno (h.owned (.inr e))
    have h2 : b ≠ lr.blk := fun e => hno (h.owned (.inl e))
    rw [hkeep b (by omega) h1 h2 (fun ho => hno (h.owned_of ho)), hL.heap b hb hno]

end Go.AM
