/- The abstract machine, part 4: an interpreter that is proved sound against the model for every tape. No conditions of its own: each theorem bears its own. -/
import Derived.Test.YtbiadddjhdgddaaGreatMc
set_option linter.unusedSimpArgs false
set_option linter.unusedVariables false
/- Loops over maps: a round joins the others. -/
namespace Go.AM
variable {P : Program} {K : Known} {w0 : Start}
variable {fn nt : Nat} {g0 : T Value} {p : Pat} {ι : Inj} {s : S} {ws : World} {r m m0 : Nat} {lr lm lm0 : Loc} {c c0 : Nat} {srcE : Array MapEntry} {es0 : List (Value × Value)} {kk : KeyKind} {Z : List (RD × MapEntry)} {nxE : Nat}

theorem LI.step (h : LCtx P K w0 fn nt g0 p ι s ws r m m0 lr lm lm0 c c0 srcE es0 kk Z nxE) {Zd A B : List (RD × MapEntry)} {z : RD × MapEntry} (hp : (Zd ++ (A ++ z :: B)).Perm Z) {ιd : Inj} {hd : T AObj} {w : World} {tmps : Array Value}
    (hL : LI P g0 nt ι s ws r m m0 lr lm c c0 srcE es0 nxE Zd ιd hd w tmps) {wa : World} (hput : WPut w wa lr.blk (.mapIter (some lm.blk) c ((Zd.map (·.2.born)).toArray.push z.2.born) c))
    {ι2 : Inj} {s2 : S} {w2 : World} {tmps' : Array Value} (hR : Rnd P ι (innerH s.h r m m0) z.1.nx wa lm0.blk ι2 s2 w2) (hs2 : s2.h = z.1.h1) (hn2 : s2.nx = z.1.nx') (ht : TmpRel ι g0 tmps') (hsz : tmps'.size = nt)
    {dE' : Array MapEntry} (hd1 : w2.heap[lm0.blk]? = some (.map dE' (c0 + Zd.length + 1)))
    (hd2 : ORel P (mergeI ιd ι2 z.1.nx z.1.nx') lm0 (.map ((es0 ++ newEs (Zd.map (·.1))) ++ [(z.1.kx, z.1.x)]) (c0 + Zd.length + 1)) (.map dE' (c0 + Zd.length + 1))) :
    LI P g0 nt ι s ws r m m0 lr lm c c0 srcE es0 nxE (Zd ++ [z]) (mergeI ιd ι2 z.1.nx z.1.nx')
      ((copyR z.1.h1 (z.1.nx' - z.1.nx) z.1.nx hd).set m0 (.map ((es0 ++ newEs (Zd.map (·.1))) ++ [(z.1.kx, z.1.x)]) (c0 + Zd.length + 1))) w2 tmps' := by
  obtain ⟨hza, hzb, hzc, hzd⟩ := h.apart hp
  obtain ⟨es, hm⟩ := h.gm
  have hm0lt := h.lt_nx h.im0
  have hmlt := h.lt_nx h.im
  have hrlt := h.lt_nx h.ir
  -- the new heap
  have hget : ∀ id, ((copyR z.1.h1 (z.1.nx' - z.1.nx) z.1.nx hd).set m0 (.map ((es0 ++ newEs (Zd.map (·.1))) ++ [(z.1.kx, z.1.x)]) (c0 + Zd.length + 1))).get id =
      if id = m0 then some (.map ((es0 ++ newEs (Zd.map (·.1))) ++ [(z.1.kx, z.1.x)]) (c0 + Zd.length + 1)) else if z.1.nx ≤ id ∧ id < z.1.nx' then z.1.h1.get id else hd.get id := by
    intro id
    rw [T.get_set, copyR_get]
    have : (z.1.nx ≤ id ∧ id < z.1.nx + (z.1.nx' - z.1.nx)) ↔ (z.1.nx ≤ id ∧ id < z.1.nx') := by omega
    simp only [this]
  generalize (copyR z.1.h1 (z.1.nx' - z.1.nx) z.1.nx hd).set m0 (.map ((es0 ++ newEs (Zd.map (·.1))) ++ [(z.1.kx, z.1.x)]) (c0 + Zd.length + 1)) = hd' at hget ⊢
  -- nothing is known in the range before
  have hnone : ∀ id, z.1.nx ≤ id → id < z.1.nx' → ιd id = none := by
    intro id ha hb
    cases hi : ιd id with
    | none => rfl
    | some l =>
      exfalso
      obtain ⟨_, y, hy, y1, y2⟩ := hL.hi id l (by omega) hi
      have := (hzd y hy).2.2.2
      omega
  have hxd : Ext ιd (mergeI ιd ι2 z.1.nx z.1.nx') := Ext.merge_l hnone
  have hιd : Ext ι ιd := fun id l hl => by rw [hL.low id (h.lt_nx hl)]; exact hl
  have hx2 : Ext ι2 (mergeI ιd ι2 z.1.nx z.1.nx') := by
    intro id l hl
    by_cases hin : z.1.nx ≤ id ∧ id < z.1.nx'
    · rw [mergeI_in hin]; exact hl
    · rw [mergeI_out hin]
      by_cases hlt : id < z.1.nx
      · cases hi : ι id with
        | none => rw [hR.keep id hlt hi] at hl; cases hl
        | some l3 => have := hR.ext _ _ hi; rw [this] at hl; cases hl; exact hιd _ _ hi
      · rw [hR.srel.fresh id (by omega)] at hl; cases hl
  have hsz1 : wa.heap.size = w.heap.size := hput.size
  have hszs := hL.size
  have hszr := hR.size
  have blt : ∀ {a : Nat} {l : Loc}, ι a = some l → l.blk < ws.heap.size := fun hi => h.srel.bound _ _ hi
  have hX := blt h.im0
  have hbr := blt h.ir
  have hbm := blt h.im
  -- blocks that stand
  have hkeep : ∀ b, b < w.heap.size → b ≠ lm0.blk → b ≠ lr.blk → ¬ Owned ι ⟨innerH s.h r m m0, z.1.nx, z.1.nx⟩ b → w2.heap[b]? = w.heap[b]? := by
    intro b hb h1 h2 h3
    rw [hR.heap b (by omega) h1 h3, hput.other b h2]
  have hlr2 : w2.heap[lr.blk]? = wa.heap[lr.blk]? := hR.heap _ (by omega) h.blk_rm0 (h.not_owned (.inl rfl))
  have hlm2 : w2.heap[lm.blk]? = w.heap[lm.blk]? := hkeep _ (by omega) h.blk_mm0 h.blk_rm.symm (h.not_owned (.inr (.inl rfl)))
  -- the old state in the new world
  have innA : SRel P ι ⟨innerH s.h r m m0, s.nx, s.nx⟩ wa := by
    refine hL.inner.touch hput ?_
    intro id l o hi hl hg
    rcases h.inner_dead (.inl rfl) hi hl hg with e | e
    · exfalso
      subst e
      simp only at hg
      rw [innerH_get] at hg
      by_cases e1 : id = m0
      · subst e1; rw [h.im0] at hi; cases hi; exact h.blk_rm0 hl.symm
      · rw [if_neg e1] at hg
        by_cases e2 : id = m
        · subst e2; rw [h.im] at hi; cases hi; exact h.blk_rm hl.symm
        · rw [if_neg e2] at hg
          by_cases e3 : id = r
          · rw [if_pos e3] at hg; cases hg
          · rw [if_neg e3] at hg
            have := h.srel.alone h.ir hi (Ne.symm e3) hl.symm h.gr hg (by intro x; simp)
            simp [Dead] at this
    · cases o with
      | blk b => obtain ⟨bc, bn, be, bp, bst⟩ := b; exact .dead _ e
      | _ => exact absurd e (by simp [Dead])
  have inn2 : SRel P ι ⟨innerH s.h r m m0, s.nx, s.nx⟩ w2 := by
    refine innA.restrict hR.srel hR.ext (fun id hi => ?_) hR.size
    obtain ⟨l, hl⟩ := Option.ne_none_iff_exists'.1 hi
    exact hR.low id (by have := h.lt_nx hl; omega)
  -- where an id stands
  have hcase : ∀ id l, mergeI ιd ι2 z.1.nx z.1.nx' id = some l → (id < s.nx ∧ ι id = some l) ∨ (s.nx ≤ id ∧ ¬ (z.1.nx ≤ id ∧ id < z.1.nx') ∧ ιd id = some l ∧ ws.heap.size ≤ l.blk) ∨ (z.1.nx ≤ id ∧ id < z.1.nx' ∧ ι2 id = some l ∧ w.heap.size ≤ l.blk) := by
    intro id l hl
    by_cases hin : z.1.nx ≤ id ∧ id < z.1.nx'
    · rw [mergeI_in hin] at hl
      have := hR.new id l (h.srel.fresh id (by omega)) hl
      exact .inr (.inr ⟨hin.1, hin.2, hl, by omega⟩)
    · rw [mergeI_out hin] at hl
      by_cases hlt : id < s.nx
      · rw [hL.low id hlt] at hl; exact .inl ⟨hlt, hl⟩
      · exact .inr (.inl ⟨by omega, hin, hl, (hL.hi id l (by omega) hl).1⟩)
  have hnolate : ∀ b n lo, ws.heap.size ≤ b → ¬ Owned ι ⟨innerH s.h r m m0, n, lo⟩ b := by
    rintro b n lo hb ⟨id, l, o, a1, a2, _⟩
    have := blt a1; omega
  refine ⟨⟨?_, ?_, ?_, ?_, ?_⟩, inn2, ?_, ?_, ?_, ?_, ?_, ?_, ?_, by rw [hlm2]; exact hL.src, ?_, by omega, by rw [hR.os, hput.os, hL.os], by rw [hR.out, hput.out, hL.out], by rw [hR.tape, hput.tape, hL.tape], ht, hsz⟩
  · -- obj
    intro id l o hi hg
    simp only at hg
    rw [hget] at hg
    by_cases e0 : id = m0
    · subst e0
      rw [if_pos rfl] at hg; cases hg
      have : l = lm0 := by
        rw [mergeI_out (by omega), hL.low _ hm0lt, h.im0] at hi; cases hi; rfl
      subst this
      exact ⟨_, hd1, hd2⟩
    · rw [if_neg e0] at hg
      rcases hcase id l hi with ⟨a1, a2⟩ | ⟨a1, a2, a3, a4⟩ | ⟨a1, a2, a3, a4⟩
      · rw [if_neg (by omega)] at hg
        have hgd := hg
        by_cases er : id = r
        · subst er; rw [hL.getr] at hg; cases hg
        · rw [hL.get id a1 er e0] at hg
          by_cases em : id = m
          · subst em
            obtain ⟨o', b1, b2⟩ := hL.srel.obj id l o (by rw [hL.low id a1]; exact a2) hgd
            rw [h.im] at a2; cases a2
            exact ⟨o', by rw [hlm2]; exact b1, b2.mono hxd⟩
          · obtain ⟨o', b1, b2⟩ := inn2.obj id l o a2 (by simp only; rw [innerH_get, if_neg e0, if_neg em, if_neg er]; exact hg)
            exact ⟨o', b1, (b2.mono hιd).mono hxd⟩
      · rw [if_neg a2] at hg
        obtain ⟨o', b1, b2⟩ := hL.srel.obj id l o a3 hg
        have hlt := hL.srel.bound id l a3
        refine ⟨o', ?_, b2.mono hxd⟩
        rw [hkeep l.blk hlt (by omega) (by omega) (hnolate _ _ _ a4)]; exact b1
      · rw [if_pos ⟨a1, a2⟩, ← hs2] at hg
        obtain ⟨o', b1, b2⟩ := hR.srel.obj id l o a3 hg
        exact ⟨o', b1, b2.mono hx2⟩
  · intro id hi
    have hi' : nxE ≤ id := hi
    rw [mergeI_out (by omega)]
    exact hL.srel.fresh id hi
  · intro id l hi
    rcases hcase id l hi with ⟨a1, a2⟩ | ⟨a1, a2, a3, a4⟩ | ⟨a1, a2, a3, a4⟩
    · have := blt a2; omega
    · have := hL.srel.bound id l a3; omega
    · exact hR.srel.bound id l a3
  · -- alias
    have hbnd : ∀ id l, s.nx ≤ id → ιd id = some l → l.blk < w.heap.size := fun id l _ hl => hL.srel.bound id l hl
    -- objects outside the range
    have hold : ∀ id o, ¬ (z.1.nx ≤ id ∧ id < z.1.nx') → hd'.get id = some o → (id = m0 ∧ ∃ es' k', o = .map es' k') ∨ (id ≠ m0 ∧ hd.get id = some o) := by
      intro id o hn hg
      rw [hget] at hg
      by_cases e0 : id = m0
      · rw [if_pos e0] at hg; cases hg; exact .inl ⟨e0, _, _, rfl⟩
      · rw [if_neg e0, if_neg hn] at hg; exact .inr ⟨e0, hg⟩
    have hout : ∀ id1 id2 l1 l2 o1 o2, id1 ≠ id2 → ιd id1 = some l1 → ιd id2 = some l2 → l1.blk = l2.blk → ¬ (z.1.nx ≤ id1 ∧ id1 < z.1.nx') → ¬ (z.1.nx ≤ id2 ∧ id2 < z.1.nx') → hd'.get id1 = some o1 → hd'.get id2 = some o2 →
        Dead o1 ∨ Dead o2 ∨ Par o1 id2 ∨ Par o2 id1 := by
      intro id1 id2 l1 l2 o1 o2 hne i1 i2 hbl n1 n2 g1 g2
      rcases hold id1 o1 n1 g1 with ⟨rfl, es', k', rfl⟩ | ⟨e1, g1'⟩
      · rcases hold id2 o2 n2 g2 with ⟨e, _⟩ | ⟨e2, g2'⟩
        · exact absurd e.symm hne
        · exact .inr (.inl (hL.srel.alone i1 i2 hne hbl hL.getm0 g2' (by intro x; simp)))
      · rcases hold id2 o2 n2 g2 with ⟨rfl, es', k', rfl⟩ | ⟨e2, g2'⟩
        · exact .inl (hL.srel.alone i2 i1 (Ne.symm hne) hbl.symm hL.getm0 g1' (by intro x; simp))
        · exact hL.srel.alias id1 id2 l1 l2 o1 o2 hne i1 i2 hbl g1' g2'
    have toD : ∀ id l, (id < s.nx ∧ ι id = some l) ∨ (s.nx ≤ id ∧ ¬ (z.1.nx ≤ id ∧ id < z.1.nx') ∧ ιd id = some l ∧ ws.heap.size ≤ l.blk) → ιd id = some l ∧ ¬ (z.1.nx ≤ id ∧ id < z.1.nx') ∧ l.blk < w.heap.size := by
      rintro id l (⟨a1, a2⟩ | ⟨a1, a2, a3, a4⟩)
      · exact ⟨by rw [hL.low id a1]; exact a2, by omega, by have := blt a2; omega⟩
      · exact ⟨a3, a2, hbnd id l a1 a3⟩
    intro id1 id2 l1 l2 o1 o2 hne i1 i2 hbl g1 g2
    simp only at g1 g2
    have c1 := hcase id1 l1 i1
    have c2 := hcase id2 l2 i2
    rw [← or_assoc] at c1 c2
    rcases c1 with c1 | ⟨a1, a2, a3, a4⟩
    · obtain ⟨d1, d2, d3⟩ := toD id1 l1 c1
      rcases c2 with c2 | ⟨b1, b2, b3, b4⟩
      · obtain ⟨f1, f2, f3⟩ := toD id2 l2 c2
        exact hout id1 id2 l1 l2 o1 o2 hne d1 f1 hbl d2 f2 g1 g2
      · omega
    · rcases c2 with c2 | ⟨b1, b2, b3, b4⟩
      · obtain ⟨f1, f2, f3⟩ := toD id2 l2 c2
        omega
      · rw [hget, if_neg (by omega), if_pos ⟨a1, a2⟩, ← hs2] at g1
        rw [hget, if_neg (by omega), if_pos ⟨b1, b2⟩, ← hs2] at g2
        exact hR.srel.alias id1 id2 l1 l2 o1 o2 hne a3 b3 hbl g1 g2
  · -- par
    intro id o q hg hi hdd hpp
    simp only at hg
    rw [hget] at hg
    by_cases e0 : id = m0
    · rw [if_pos e0] at hg; cases hg; simp [Par] at hpp
    · rw [if_neg e0] at hg
      obtain ⟨l, hl⟩ := Option.ne_none_iff_exists'.1 hi
      by_cases hin : z.1.nx ≤ id ∧ id < z.1.nx'
      · rw [if_pos hin, ← hs2] at hg
        rw [mergeI_in hin] at hl
        obtain ⟨y1, y2⟩ := hR.srel.par id o q hg (by rw [hl]; simp) hdd hpp
        obtain ⟨lq, hlq⟩ := Option.ne_none_iff_exists'.1 y1
        refine ⟨by rw [hx2 _ _ hlq]; simp, fun o' ho' => ?_⟩
        simp only at ho'
        rw [hget] at ho'
        have hlow : q < z.1.nx → s2.h.get q = (innerH s.h r m m0).get q := fun hlt => hR.low q hlt
        by_cases e1 : q = m0
        · exfalso
          have := hlow (by omega)
          rw [innerH_get, if_pos e1] at this
          obtain ⟨b, e, _⟩ := y2 _ this; cases e
        · rw [if_neg e1] at ho'
          by_cases hqin : z.1.nx ≤ q ∧ q < z.1.nx'
          · rw [if_pos hqin, ← hs2] at ho'; exact y2 o' ho'
          · rw [if_neg hqin] at ho'
            -- q is an old one
            have hq : q < s.nx := by
              rcases hcase q lq (hx2 _ _ hlq) with ⟨a1, _⟩ | ⟨a1, a2, a3, a4⟩ | ⟨a1, a2, _⟩
              · exact a1
              · exfalso
                rcases Nat.lt_or_ge q z.1.nx with x | x
                · rw [hR.keep q x (h.srel.fresh q a1)] at hlq; cases hlq
                · rw [hR.srel.fresh q (by omega)] at hlq; cases hlq
              · exact absurd ⟨a1, a2⟩ hqin
            by_cases er : q = r
            · rw [er, hL.getr] at ho'; cases ho'
            · by_cases em : q = m
              · exfalso
                have := hlow (by omega)
                rw [innerH_get, if_neg e1, if_pos em] at this
                obtain ⟨b, e, _⟩ := y2 _ this; cases e
              · rw [hL.get q hq er e1] at ho'
                refine y2 o' ?_
                rw [hlow (by omega), innerH_get, if_neg e1, if_neg em, if_neg er]; exact ho'
      · rw [if_neg hin] at hg
        rw [mergeI_out hin] at hl
        obtain ⟨y1, y2⟩ := hL.srel.par id o q hg (by rw [hl]; simp) hdd hpp
        obtain ⟨lq, hlq⟩ := Option.ne_none_iff_exists'.1 y1
        refine ⟨by rw [hxd _ _ hlq]; simp, fun o' ho' => ?_⟩
        simp only at ho'
        rw [hget] at ho'
        by_cases e1 : q = m0
        · exfalso
          obtain ⟨b, e, _⟩ := y2 _ (by rw [e1]; exact hL.getm0); cases e
        · rw [if_neg e1, if_neg] at ho'
          · exact y2 o' ho'
          · rintro ⟨x1, x2⟩
            rw [hnone q x1 x2] at hlq; cases hlq
  · intro id hi; rw [mergeI_out (by omega)]; exact hL.low id hi
  · intro id hi hr hm0; rw [hget, if_neg hm0, if_neg (by omega)]; exact hL.get id hi hr hm0
  · rw [hget, if_neg h.rm0, if_neg (by omega)]; exact hL.getr
  · rw [hget, if_pos rfl]; simp [newEs, Nat.add_assoc]
  · intro id l hi hs
    by_cases hin : z.1.nx ≤ id ∧ id < z.1.nx'
    · rw [mergeI_in hin] at hs
      have := hR.new id l (h.srel.fresh id (by omega)) hs
      exact ⟨by omega, z, by simp, hin⟩
    · rw [mergeI_out hin] at hs
      obtain ⟨a1, y, hy, a2⟩ := hL.hi id l hi hs
      exact ⟨a1, y, by simp [hy], a2⟩
  · intro y hy id ha hb
    rw [hget]
    rcases List.mem_append.1 hy with hy | hy
    · have := hzd y hy
      rw [if_neg (by omega), if_neg (by omega)]
      exact hL.own y hy id ha hb
    · simp only [List.mem_singleton] at hy; subst hy
      rw [if_neg (by omega), if_pos ⟨ha, hb⟩]
  · rw [hlr2, hput.at_]; simp
  · intro b hb hno
    have h1 : b ≠ lm0.blk := fun e => hno (h.owned (.inr e))
    have h2 : b ≠ lr.blk := fun e => hno (h.owned (.inl e))
    rw [hkeep b (by omega) h1 h2 (fun ho => hno (h.owned_of ho)), hL.heap b hb hno]

end Go.AM
/- Loops over maps: the model's steps. -/
namespace Go.AM
variable {P : Program} {K : Known} {w0 : Start}

structure PatOf (c : Code) (id : Nat) (p : Pat) : Prop where
  ex : ∃ i1 i2 ops1 o1 o2 o3, c = .seq (.region i1 ops1 false) (.seq (.cond (.tmp p.tok) .skip (.exit id)) (.block p.id2 (.seq (.region i2 p.all false) p.rest))) ∧
    ops1 = #[o1, o2] ∧ o1.dst = some p.tn ∧ o1.op = .next (.tmp p.it) false ∧ o1.guard = none ∧ o2.dst = some p.tok ∧ o2.op = .extract (.tmp p.tn) 0 ∧ o2.guard = none ∧
    p.all.toList = o3 :: p.ops ∧ o3.dst = some p.te ∧ o3.op = .entry (.tmp p.it) ∧ o3.guard = none
  n1 : p.it ≠ p.tn
  n2 : p.it ≠ p.tok
  n3 : p.it ≠ p.te
  n4 : p.tn ≠ p.tok

theorem patOf_spec {c : Code} {id : Nat} {p : Pat} (h : patOf c id = some p) : PatOf c id p := by
  unfold patOf at h
  split at h
  · rename_i i1 ops1 tok id' id2 i2 ops2 rest
    split at h
    · rename_i tn it a1 a2 a3 tok' tn' b1 b2 b3 te it' c1 c2 c3 ops e1 e2
      cases hk : Nat.beq id id' && Nat.beq tok tok' && Nat.beq tn tn' && Nat.beq it it' && !Nat.beq it tn && !Nat.beq it tok && !Nat.beq it te && !Nat.beq tn tok with
      | false => rw [hk] at h; cases h
      | true =>
        rw [hk] at h; simp only [cond_true, Option.some.injEq] at h; subst h
        simp only [Bool.and_eq_true, Nat.beq_eq, Bool.not_eq_true'] at hk
        obtain ⟨⟨⟨⟨⟨⟨⟨rfl, rfl⟩, rfl⟩, rfl⟩, n1⟩, n2⟩, n3⟩, n4⟩ := hk
        have ne : ∀ {a b : Nat}, Nat.beq a b = false → a ≠ b := fun x e => by rw [e, Nat.beq_refl] at x; cases x
        refine ⟨⟨i1, i2, ops1, ⟨some tn, .next (.tmp it) false, a1, a2, a3, none⟩, ⟨some tok, .extract (.tmp tn) 0, b1, b2, b3, none⟩, ⟨some te, .entry (.tmp it), c1, c2, c3, none⟩, rfl, ?_, rfl, rfl, rfl, rfl, rfl, rfl, e2, rfl, rfl, rfl⟩, ne n1, ne n2, ne n3, ne n4⟩
        rw [← Array.toArray_toList (xs := ops1), e1]
    · cases h
  · cases h

theorem wanted_none {o : Oper} {f : Nat → Option Bool} (h : o.guard = none) : Region.wanted o f = true := by simp [Region.wanted, h]

theorem rho_pt {tmps : Array Value} {d t : Tmp} {v : Value} (h : d ≠ t) : rho (pt tmps (some d) v) (.tmp t) = rho tmps (.tmp t) := by
  show (pt tmps (some d) v).getD t undef = tmps.getD t undef
  exact pt_get (by simpa using h)
theorem rho_pt_self {tmps : Array Value} {d : Tmp} {v : Value} (h : d < tmps.size) : rho (pt tmps (some d) v) (.tmp d) = v := by
  show (pt tmps (some d) v).getD d undef = v
  exact pt_self h

section
variable {fn nt : Nat} {kind : KR} {tmps : Array Value} {ds' : List Deferred} {cs : List Frame} {Kl : List Item} {w wa : World} {c : Code} {id : Nat} {p : Pat} {rb : Nat}

/-- one more entry -/
theorem iter_begin (hp : PatOf c id p) (hsz : tmps.size = nt) (htn : p.tn < nt) (htok : p.tok < nt) (hit : rho tmps (.tmp p.it) = .pointer (some ⟨rb, 0, none⟩)) {e : MapEntry}
    (hnext : ∀ t, (Instr.next (.pointer (some ⟨rb, 0, none⟩)) false t).run P w = .ok (.tuple #[.bool true, e.key, e.val]) wa) (hentry : (Instr.entry (.pointer (some ⟨rb, 0, none⟩))).run P wa = .ok (.tuple #[e.key, e.val]) wa) :
    Steps P (lone (mkF fn kind tmps ds' (.code c :: Kl)) cs w)
      (lone (mkF fn kind (pt (pt (pt tmps (some p.tn) (.tuple #[.bool true, e.key, e.val])) (some p.tok) (.bool true)) (some p.te) (.tuple #[e.key, e.val])) ds'
        (.inRegion p.all (List.range' 1 (p.all.size - 1)) :: .code p.rest :: .inBlock p.id2 :: Kl)) cs wa) := by
  obtain ⟨⟨i1, i2, ops1, o1, o2, o3, rfl, rfl, d1, q1, g1, d2, q2, g2, hall, d3, q3, g3⟩, n1, n2, n3, n4⟩ := hp
  have hsz3 : p.all.size = p.ops.length + 1 := by rw [← Array.length_toList, hall]; simp
  have ho3 : p.all[0]? = some o3 := by rw [← Array.getElem?_toList, hall]; rfl
  refine .head (stepR_seq (b := bs fn kind) (a := ⟨tmps, ds'⟩)) (.head (stepR_region (b := bs fn kind) (a := ⟨tmps, ds'⟩)) ?_)
  have hr2 : List.range (#[o1, o2] : Array Oper).size = [0, 1] := rfl
  rw [hr2]
  have hs1 := st_value (P := P) (fn := fn) (kind := kind) (tmps := tmps) (ds := ds') (all := #[o1, o2]) (i := 0) (L := [1]) (k := .code (.seq (.cond (.tmp p.tok) .skip (.exit id)) (.block p.id2 (.seq (.region i2 p.all false) p.rest))) :: Kl) (cs := cs) (o := o1) rfl (wanted_none g1)
    (.inl (show (execOp (rho tmps) o1).run P w = .ok (.value (.tuple #[.bool true, e.key, e.val])) wa by simp only [execOp, q1, hit, Sem.run_bind, hnext, Result.andThen_ok, Sem.run_pure]))
  refine .head hs1 ?_
  rw [d1]
  have hs2 := st_value (P := P) (fn := fn) (kind := kind) (tmps := pt tmps (some p.tn) (.tuple #[.bool true, e.key, e.val])) (ds := ds') (all := #[o1, o2]) (i := 1) (L := []) (k := .code (.seq (.cond (.tmp p.tok) .skip (.exit id)) (.block p.id2 (.seq (.region i2 p.all false) p.rest))) :: Kl) (cs := cs) (o := o2) (w := wa) (w' := wa) (v := .bool true) rfl (wanted_none g2)
    (.inl (by
      have : rho (pt tmps (some p.tn) (.tuple #[.bool true, e.key, e.val])) (.tmp p.tn) = .tuple #[.bool true, e.key, e.val] := rho_pt_self (by rw [hsz]; exact htn)
      simp [execOp, q2, this, Instr.extract]))
  refine .head hs2 ?_
  rw [d2]
  refine .head (stepR_region_end (b := bs fn kind) (a := ⟨_, ds'⟩)) (.head (stepR_seq (b := bs fn kind) (a := ⟨_, ds'⟩)) ?_)
  have hcond : (Act.mk (pt (pt tmps (some p.tn) (.tuple #[.bool true, e.key, e.val])) (some p.tok) (.bool true)) ds').eval (.tmp p.tok) = .bool true := by
    rw [rho_eq]; exact rho_pt_self (by rw [pt_size, hsz]; exact htok)
  refine .head (stepR_cond (b := bs fn kind) hcond) (.head (stepR_skip (b := bs fn kind) (a := ⟨_, ds'⟩)) (.head (stepR_block (b := bs fn kind) (a := ⟨_, ds'⟩)) (.head (stepR_seq (b := bs fn kind) (a := ⟨_, ds'⟩)) (.head (stepR_region (b := bs fn kind) (a := ⟨_, ds'⟩)) ?_))))
  have hr3 : List.range p.all.size = 0 :: List.range' 1 (p.all.size - 1) := by
    rw [hsz3, List.range_eq_range', List.range'_succ]; rfl
  rw [hr3]
  have hit3 : rho (pt (pt tmps (some p.tn) (.tuple #[.bool true, e.key, e.val])) (some p.tok) (.bool true)) (.tmp p.it) = .pointer (some ⟨rb, 0, none⟩) := by
    rw [rho_pt (Ne.symm n2), rho_pt (Ne.symm n1)]; exact hit
  have hs3 := st_value (P := P) (fn := fn) (kind := kind) (tmps := pt (pt tmps (some p.tn) (.tuple #[.bool true, e.key, e.val])) (some p.tok) (.bool true)) (ds := ds') (all := p.all) (i := 0) (L := List.range' 1 (p.all.size - 1)) (k := .code p.rest :: .inBlock p.id2 :: Kl) (cs := cs) (o := o3) (w := wa) (w' := wa) (v := .tuple #[e.key, e.val]) ho3 (wanted_none g3)
    (.inl (by simp only [execOp, q3, hit3, Sem.run_bind, hentry, Result.andThen_ok, Sem.run_pure]))
  refine .head hs3 ?_
  rw [d3]
  exact .refl _ _

/-- the round's end -/
theorem iter_end {todo : List Item} : Steps P (lone (mkF fn kind tmps ds' (.inBlock p.id2 :: .inLoop c :: todo)) cs w) (lone (mkF fn kind tmps ds' (.code c :: .inLoop c :: todo)) cs w) :=
  .head (stepR_inBlock (b := bs fn kind) (a := ⟨tmps, ds'⟩)) (.one (stepR_inLoop (b := bs fn kind) (a := ⟨tmps, ds'⟩)))

/-- no more entries -/
theorem iter_over (hp : PatOf c id p) (hsz : tmps.size = nt) (htn : p.tn < nt) (htok : p.tok < nt) (hit : rho tmps (.tmp p.it) = .pointer (some ⟨rb, 0, none⟩)) {k' : List Item}
    (hnext : ∀ t, (Instr.next (.pointer (some ⟨rb, 0, none⟩)) false t).run P w = .ok (.tuple #[.bool false]) wa) :
    Steps P (lone (mkF fn kind tmps ds' (.code c :: .inLoop c :: .inBlock id :: k')) cs w)
      (lone (mkF fn kind (pt (pt tmps (some p.tn) (.tuple #[.bool false])) (some p.tok) (.bool false)) ds' k') cs wa) := by
  obtain ⟨⟨i1, i2, ops1, o1, o2, o3, hc, rfl, d1, q1, g1, d2, q2, g2, hall, d3, q3, g3⟩, n1, n2, n3, n4⟩ := hp
  generalize hcl : (Item.inLoop c :: .inBlock id :: k') = Kl
  rw [hc]
  refine .head (stepR_seq (b := bs fn kind) (a := ⟨tmps, ds'⟩)) (.head (stepR_region (b := bs fn kind) (a := ⟨tmps, ds'⟩)) ?_)
  have hr2 : List.range (#[o1, o2] : Array Oper).size = [0, 1] := rfl
  rw [hr2]
  have hs1 := st_value (P := P) (fn := fn) (kind := kind) (tmps := tmps) (ds := ds') (all := #[o1, o2]) (i := 0) (L := [1]) (k := .code (.seq (.cond (.tmp p.tok) .skip (.exit id)) (.block p.id2 (.seq (.region i2 p.all false) p.rest))) :: Kl) (cs := cs) (o := o1) rfl (wanted_none g1)
    (.inl (show (execOp (rho tmps) o1).run P w = .ok (.value (.tuple #[.bool false])) wa by simp only [execOp, q1, hit, Sem.run_bind, hnext, Result.andThen_ok, Sem.run_pure]))
  refine .head hs1 ?_
  rw [d1]
  have hs2 := st_value (P := P) (fn := fn) (kind := kind) (tmps := pt tmps (some p.tn) (.tuple #[.bool false])) (ds := ds') (all := #[o1, o2]) (i := 1) (L := []) (k := .code (.seq (.cond (.tmp p.tok) .skip (.exit id)) (.block p.id2 (.seq (.region i2 p.all false) p.rest))) :: Kl) (cs := cs) (o := o2) (w := wa) (w' := wa) (v := .bool false) rfl (wanted_none g2)
    (.inl (by
      have : rho (pt tmps (some p.tn) (.tuple #[.bool false])) (.tmp p.tn) = .tuple #[.bool false] := rho_pt_self (by rw [hsz]; exact htn)
      simp [execOp, q2, this, Instr.extract]))
  refine .head hs2 ?_
  rw [d2]
  refine .head (stepR_region_end (b := bs fn kind) (a := ⟨_, ds'⟩)) (.head (stepR_seq (b := bs fn kind) (a := ⟨_, ds'⟩)) ?_)
  have hcond : (Act.mk (pt (pt tmps (some p.tn) (.tuple #[.bool false])) (some p.tok) (.bool false)) ds').eval (.tmp p.tok) = .bool false := by
    rw [rho_eq]; exact rho_pt_self (by rw [pt_size, hsz]; exact htok)
  refine .head (stepR_cond (b := bs fn kind) hcond) (.one (stepR_exit (b := bs fn kind) (a := ⟨_, ds'⟩) ?_))
  rw [← hcl]
  simp [exitTo]

end

variable {fn nt : Nat} {g0 : T Value} {p : Pat} {ι : Inj} {s : S} {ws : World} {r m m0 : Nat} {lr lm lm0 : Loc} {c c0 : Nat} {srcE : Array MapEntry} {es0 : List (Value × Value)} {kk : KeyKind} {Z : List (RD × MapEntry)} {nxE : Nat}
  {kind : CallKind} {ds' : List Deferred} {cs : List Frame}

theorem startG_rel {tmps : Array Value} {k v k' v' : Value} (ht : TmpRel ι g0 tmps) (hsz : tmps.size = nt) (htn : p.tn < nt) (htok : p.tok < nt) (hte : p.te < nt) (hk : VRel ι k k') (hv : VRel ι v v') :
    TmpRel ι (startG p g0 k v) (pt (pt (pt tmps (some p.tn) (.tuple #[.bool true, k', v'])) (some p.tok) (.bool true)) (some p.te) (.tuple #[k', v'])) := by
  have dk : ∀ {t : Tmp}, t < nt → dstOk nt (some t) = true := fun h => by simpa [dstOk] using h
  have h1 := ht.putD hsz (dst := some p.tn) (dk htn) (v := .tuple #[.bool true, k, v]) (v' := .tuple #[.bool true, k', v']) (.tuple (.cons (.bool _) (.cons hk (.cons hv .nil))))
  have h2 := h1.putD (by rw [pt_size]; exact hsz) (dst := some p.tok) (dk htok) (.bool true)
  exact h2.putD (by rw [pt_size, pt_size]; exact hsz) (dst := some p.te) (dk hte) (v := .tuple #[k, v]) (v' := .tuple #[k', v']) (.tuple (.cons hk (.cons hv .nil)))

theorem loop_all (hK : KnownOk P K w0) (hmix : P.follows .mixedOrders = true) (h : LCtx P K w0 fn nt g0 p ι s ws r m m0 lr lm lm0 c c0 srcE es0 kk Z nxE) {code : Code} {id : Nat} (hpat : PatOf code id p)
    (htn : p.tn < nt) (htok : p.tok < nt) (hte : p.te < nt) {sp : Option Nat} (hit : ev g0 (.tmp p.it) = .pointer (some ⟨r, 0, sp⟩)) (hfunc : ∃ f, P.funcs[fn]? = some f) {k' : List Item} :
    ∀ (n : Nat) (Zr Zd : List (RD × MapEntry)) (ιd : Inj) (hd : T AObj) (w : World) (tmps : Array Value), Zr.length = n → (Zd ++ Zr).Perm Z → LI P g0 nt ι s ws r m m0 lr lm c c0 srcE es0 nxE Zd ιd hd w tmps →
      ∃ Zd' ιd' hd' w' w'' tmps', Zd'.Perm Z ∧ LI P g0 nt ι s ws r m m0 lr lm c c0 srcE es0 nxE Zd' ιd' hd' w' tmps' ∧ WSame w' w'' ∧
        Steps P (lone (mkF fn ⟨kind, none⟩ tmps ds' (.code code :: .inLoop code :: .inBlock id :: k')) cs w) (lone (mkF fn ⟨kind, none⟩ (pt (pt tmps' (some p.tn) (.tuple #[.bool false])) (some p.tok) (.bool false)) ds' k') cs w'') := by
  intro n
  induction n with
  | zero =>
    intro Zr Zd ιd hd w tmps hlen hperm hL
    have hZr : Zr = [] := List.eq_nil_of_length_eq_zero hlen
    subst hZr
    simp only [List.append_nil] at hperm
    have hitc : rho tmps (.tmp p.it) = .pointer (some ⟨lr.blk, 0, none⟩) := by
      have := hL.trel p.it
      rw [hit] at this
      obtain ⟨l, h1, h2⟩ := this.ptr_inv
      rw [h.ir] at h1; cases h1
      rw [h.base] at h2
      exact h2
    have hno : ∀ e ∈ srcE.toList, ((Zd.map (·.2.born)).toArray).contains e.born = true := by
      intro e he
      have : e ∈ Zd.map (·.2) := ((hperm.map _).trans h.zperm).mem_iff.2 he
      obtain ⟨z, hz, rfl⟩ := List.mem_map.1 this
      simp only [List.contains_toArray, List.contains_eq_mem, decide_eq_true_eq, List.mem_map]
      exact ⟨z, hz, rfl⟩
    have hnx : ∃ w', (∀ t, (Instr.next (.pointer (some ⟨lr.blk, 0, none⟩)) false t).run P w = .ok (.tuple #[.bool false]) w') ∧ WSame w w' := by
      rcases next_run (P := P) hL.iter hL.src h.born 0 with ⟨_, w', h1, h2⟩ | ⟨e, he, hns, _⟩
      · exact ⟨w', fun t => h1, h2⟩
      · rw [hno e he] at hns; cases hns
    obtain ⟨w', h1, h2⟩ := hnx
    exact ⟨Zd, ιd, hd, w, w', tmps, hperm, hL, h2, iter_over hpat hL.tsz htn htok hitc h1⟩
  | succ n ih =>
    intro Zr Zd ιd hd w tmps hlen hperm hL
    have hitc : rho tmps (.tmp p.it) = .pointer (some ⟨lr.blk, 0, none⟩) := by
      have := hL.trel p.it
      rw [hit] at this
      obtain ⟨l, h1, h2⟩ := this.ptr_inv
      rw [h.ir] at h1; cases h1
      rw [h.base] at h2
      exact h2
    have hnd : ((Zd ++ Zr).map (·.2.born)).Nodup := by
      have : ((Zd ++ Zr).map (·.2)).Perm srcE.toList := (hperm.map _).trans h.zperm
      have h2 := (this.map (·.born)).nodup_iff.2 h.nodup
      simpa [List.map_map, Function.comp_def] using h2
    have hseen : ∀ z ∈ Zr, ((Zd.map (·.2.born)).toArray).contains z.2.born = false := by
      intro z hz
      cases hc : ((Zd.map (·.2.born)).toArray).contains z.2.born with
      | false => rfl
      | true =>
        exfalso
        simp only [List.contains_toArray, List.contains_eq_mem, decide_eq_true_eq, List.mem_map] at hc
        obtain ⟨y, hy, e⟩ := hc
        rw [List.map_append, List.nodup_append] at hnd
        exact hnd.2.2 _ (List.mem_map_of_mem (f := fun z : RD × MapEntry => z.2.born) hy) _ (List.mem_map_of_mem (f := fun z : RD × MapEntry => z.2.born) hz) e
    rcases next_run (P := P) hL.iter hL.src h.born 0 with ⟨hall, _⟩ | ⟨e, he, hns, wa, hrun, hput⟩
    · exfalso
      cases Zr with
      | nil => simp at hlen
      | cons z Zr =>
        have hz : z.2 ∈ srcE.toList := ((hperm.map (·.2)).trans h.zperm).mem_iff.1 (by simp)
        have h1 := hall z.2 hz
        rw [hseen z (by simp)] at h1; cases h1
    · -- which one it is
      have hez : e ∈ (Zd ++ Zr).map (·.2) := ((hperm.map (·.2)).trans h.zperm).mem_iff.2 he
      obtain ⟨z, hzm, hze⟩ := List.mem_map.1 hez
      have hzr : z ∈ Zr := by
        rcases List.mem_append.1 hzm with hz | hz
        · exfalso
          have : ((Zd.map (·.2.born)).toArray).contains e.born = true := by
            simp only [List.contains_toArray, List.contains_eq_mem, decide_eq_true_eq, List.mem_map]
            exact ⟨z, hz, by rw [hze]⟩
          rw [hns] at this; cases this
        · exact hz
      subst hze
      obtain ⟨A, B, rfl⟩ := List.append_of_mem hzr
      obtain ⟨hza, hzb, hzc, hzd⟩ := h.apart hperm
      have hzZ : z ∈ Z := hperm.mem_iff.1 (by simp)
      obtain ⟨rk, rv⟩ := h.zrel z hzZ
      have hrd := h.rd z hzZ
      have hsrcA : wa.heap[lm.blk]? = some (.map srcE c) := by rw [hput.other _ h.blk_rm.symm]; exact hL.src
      have hent := entry_run (P := P) hput.at_ hsrcA he h.nodup
      have hbeg := iter_begin (P := P) (fn := fn) (kind := ⟨kind, none⟩) (ds' := ds') (cs := cs) (Kl := .inLoop code :: .inBlock id :: k') hpat hL.tsz htn htok hitc (fun _ => hrun) hent
      have hT3 := startG_rel (p := p) hL.trel hL.tsz htn htok hte rk rv
      -- what the round finds
      have innA : SRel P ι ⟨innerH s.h r m m0, z.1.nx, z.1.nx⟩ wa := by
        refine SRel.shift (n := s.nx) (lo := s.nx) (hL.inner.touch hput ?_) hza
        intro i l o hi hl hg
        rcases h.inner_dead (.inl rfl) hi hl hg with e' | e'
        · exfalso
          subst e'
          simp only at hg
          rw [innerH_get] at hg
          by_cases e1 : i = m0
          · subst e1; rw [h.im0] at hi; cases hi; exact h.blk_rm0 hl.symm
          · rw [if_neg e1] at hg
            by_cases e2 : i = m
            · subst e2; rw [h.im] at hi; cases hi; exact h.blk_rm hl.symm
            · rw [if_neg e2] at hg
              by_cases e3 : i = r
              · rw [if_pos e3] at hg; cases hg
              · rw [if_neg e3] at hg
                have := h.srel.alone h.ir hi (Ne.symm e3) hl.symm h.gr hg (by intro x; simp)
                simp [Dead] at this
        · cases o with
          | blk b => obtain ⟨bc, bn, be, bp, bst⟩ := b; exact .dead _ e'
          | _ => exact absurd e' (by simp [Dead])
      have hini : Ini w0 ι ⟨innerH s.h r m m0, z.1.nx, z.1.nx⟩ wa := by
        have hgr := h.ge (.inl rfl)
        refine ⟨by rw [hput.size]; exact Nat.le_trans h.ini.size hL.size, fun b hb => ?_, fun b hb ho => h.ini.own b hb (h.owned_of ho), by rw [hput.out, hL.out, h.ini.out], by rw [hput.os, hL.os, h.ini.os], by rw [hput.tape, hL.tape, h.ini.tape], h.ini.pin⟩
        rw [hput.other b (by omega), hL.heap b (Nat.lt_of_lt_of_le hb h.ini.size) (h.ini.own b hb), h.ini.same b hb]
      have hdead : ∀ i l o, ι i = some l → l.blk = lm0.blk → (innerH s.h r m m0).get i = some o → i ≠ m0 → Dead o := by
        intro i l o hi hl hg hne
        rcases h.inner_dead (.inr (.inr rfl)) hi hl hg with e' | e'
        · exfalso
          subst e'
          rw [innerH_get, if_neg hne] at hg
          by_cases e2 : i = m
          · subst e2; rw [h.im] at hi; cases hi; exact h.blk_mm0 hl
          · rw [if_neg e2] at hg
            by_cases e3 : i = r
            · rw [if_pos e3] at hg; cases hg
            · rw [if_neg e3] at hg
              have := h.srel.alone h.im0 hi (Ne.symm hne) hl.symm h.gm0 hg (by intro x; simp)
              simp [Dead] at this
        · exact e'
      have hιd : Ext ι ιd := fun i l hl => by rw [hL.low i (h.lt_nx hl)]; exact hl
      obtain ⟨od, ho1, ho2⟩ := hL.srel.obj m0 lm0 _ (hιd _ _ h.im0) hL.getm0
      cases ho2 with
      | map y1 y2 y3 y4 y5 =>
        rename_i dE dl
        have hdmA : wa.heap[lm0.blk]? = some (.map dE (c0 + Zd.length)) := by rw [hput.other _ h.blk_rm0.symm]; exact ho1
        have hnone : ∀ i, z.1.nx ≤ i → i < z.1.nx' → ιd i = none := by
          intro i ha hb
          cases hi : ιd i with
          | none => rfl
          | some l =>
            exfalso
            obtain ⟨_, y, hy, y1, y2⟩ := hL.hi i l (by omega) hi
            have := (hzd y hy).2.2.2
            omega
        have hpwZ : (es0 ++ newEs ((Zd ++ (A ++ z :: B)).map (·.1))).Pairwise (fun a b => KeyNe a.1 b.1) := by
          have hpm : (es0 ++ newEs (Z.map (·.1))).Perm (es0 ++ newEs ((Zd ++ (A ++ z :: B)).map (·.1))) := by
            refine List.Perm.append_left _ ?_
            unfold newEs
            exact ((hperm.symm.map _).map _)
          exact (List.Perm.pairwise_iff (fun {_ _} x => KeyNe.symm x) hpm).1 h.pw
        have hkN : ∀ q ∈ es0 ++ newEs (Zd.map (·.1)), KeyNe z.1.kx q.1 := by
          intro q hq
          have e1 : es0 ++ newEs ((Zd ++ (A ++ z :: B)).map (·.1)) = (es0 ++ newEs (Zd.map (·.1))) ++ newEs ((A ++ z :: B).map (·.1)) := by
            simp [newEs]
          rw [e1, List.pairwise_append] at hpwZ
          refine (hpwZ.2.2 q hq (z.1.kx, z.1.x) ?_).symm
          simp [newEs]
        have hkO : ∀ q ∈ es0 ++ newEs (Zd.map (·.1)), keyOk kk q.1 = true := by
          intro q hq
          rcases List.mem_append.1 hq with hq | hq
          · exact h.ks (List.ne_nil_of_mem hzZ) q hq
          · unfold newEs at hq
            obtain ⟨rd, hrd1, rfl⟩ := List.mem_map.1 hq
            obtain ⟨y, hy, rfl⟩ := List.mem_map.1 hrd1
            exact (h.rd y (hperm.mem_iff.1 (by simp [hy]))).2
        obtain ⟨o3, ho3⟩ : ∃ o3, p.all.toList = o3 :: p.ops := by
          obtain ⟨_, _, _, _, _, o3, _, _, _, _, _, _, _, _, x, _⟩ := hpat.ex
          exact ⟨o3, x⟩
        obtain ⟨ι2, s2, w2, tmps', st, hRnd, e1, e2, ht', hsz', dE', hd1, hd2⟩ := round_ok (P := P) (kind := kind) (ds' := ds') (cs := cs) (Kin := .inBlock p.id2 :: .inLoop code :: .inBlock id :: k') hK hmix hrd innA hini (h.ge (.inr rfl)) hdead h.im0
          (by rw [innerH_get, if_pos rfl]) (by have := h.lt_nx h.im0; omega) hfunc (by rw [ho3]; rfl) (by rw [← Array.length_toList, ho3]; simp) hT3 (by rw [pt_size, pt_size, pt_size]; exact hL.tsz) hL.trel hL.tsz
          hdmA (.map y1 y2 y3 y4 y5) hιd hnone hkO hkN
        have hL' := hL.step h hperm hput hRnd e1 e2 ht' hsz' hd1 hd2
        have hperm' : ((Zd ++ [z]) ++ (A ++ B)).Perm Z := by
          refine List.Perm.trans ?_ hperm
          rw [List.append_assoc]
          exact List.Perm.append_left _ (show (z :: (A ++ B)).Perm (A ++ z :: B) from List.perm_middle.symm)
        obtain ⟨Zd', ιd', hd', w', w'', tm, f1, f2, f3, f4⟩ := ih (A ++ B) (Zd ++ [z]) _ _ w2 tmps' (by simp at hlen ⊢; omega) hperm' hL'
        exact ⟨Zd', ιd', hd', w', w'', tm, f1, f2, f3, hbeg.trans (st.trans (iter_end.trans f4))⟩

end Go.AM
/- Whole runs. -/
namespace Go.AM
noncomputable section
variable {P : Program} {K : Known} {w0 : Start} {B : Base}

theorem SRel.congr {ι : Inj} {s s' : S} {w : World} (h : SRel P ι s w) (hg : ∀ id, ι id ≠ none → s'.h.get id = s.h.get id) (hn : s'.nx = s.nx) : SRel P ι s' w := by
  have hs : ∀ {id l}, ι id = some l → s'.h.get id = s.h.get id := fun a => hg _ (by rw [a]; simp)
  refine ⟨fun id l o a b => h.obj id l o a (by rw [← hs a]; exact b), fun id a => h.fresh id (by rw [← hn]; exact a), h.bound, fun id1 id2 l1 l2 o1 o2 a b c d e f => h.alias id1 id2 l1 l2 o1 o2 a b c d (by rw [← hs b]; exact e) (by rw [← hs c]; exact f), ?_⟩
  intro id o p a b c d
  obtain ⟨x, y⟩ := h.par id o p (by rw [← hg id b]; exact a) b c d
  exact ⟨x, fun o' ho' => y o' (by rw [← hg p x]; exact ho')⟩

theorem zip_rel {ι : Inj} : ∀ {R : List RD} {es : List (Value × Value)} {lst : List MapEntry}, R.map (fun r => (r.k, r.v)) = es → EsRel ι es lst →
    ∃ Z : List (RD × MapEntry), Z.map (·.1) = R ∧ Z.map (·.2) = lst ∧ ∀ z ∈ Z, VRel ι z.1.k z.2.key ∧ VRel ι z.1.v z.2.val
  | [], _, _, rfl, .nil => ⟨[], rfl, rfl, fun z hz => by simp at hz⟩
  | r :: R, _, _, rfl, .cons a b c => by
    obtain ⟨Z, h1, h2, h3⟩ := zip_rel rfl c
    refine ⟨(r, _) :: Z, by simp [h1], by simp [h2]; rfl, fun z hz => ?_⟩
    rcases List.mem_cons.1 hz with rfl | hz
    · exact ⟨a, b⟩
    · exact h3 z hz

def Rl (ι : Inj) (v : Value) : Prop := ∃ v', VRel ι v v'
theorem evArgs_rl {ι : Inj} {F : Tmp → Option Value} (hF : ∀ t v, F t = some v → Rl ι v) : ∀ {l : List Operand} {g g' : T Value}, evArgs F l g = some g' → (∀ t, Rl ι (ev g (.tmp t))) → ∀ t, Rl ι (ev g' (.tmp t))
  | [], g, g', h, hg => by simp only [evArgs, Option.some.injEq] at h; subst h; exact hg
  | .tmp t0 :: l, g, g', h, hg => by
    simp only [evArgs] at h
    cases hv : F t0 with
    | none => simp [hv] at h
    | some v =>
      simp only [hv] at h
      refine evArgs_rl hF h fun t => ?_
      rw [ev_set]
      by_cases e : t = t0
      · rw [if_pos e]; exact hF t0 v hv
      · rw [if_neg e]; exact hg t
  | .const _ :: l, g, g', h, hg => evArgs_rl hF (by simpa only [evArgs] using h) hg
  | .global _ :: l, g, g', h, hg => evArgs_rl hF (by simpa only [evArgs] using h) hg
  | .func _ :: l, g, g', h, hg => evArgs_rl hF (by simpa only [evArgs] using h) hg
theorem evT_rl {ι : Inj} {s : S} {w : World} (hS : SRel P ι s w) {ops : List Oper} {g : T Value} (hg : ∀ t, Rl ι (ev g (.tmp t))) : ∀ (n : Nat) (t : Tmp) (v : Value), evT P ops g s n t = some v → Rl ι v
  | 0, t, v, h => by simp only [evT, Option.some.injEq] at h; subst h; exact hg t
  | n + 1, t, v, h => by
    simp only [evT] at h
    cases ho : opFor t ops with
    | none => simp only [ho, Option.some.injEq] at h; subst h; exact hg t
    | some o =>
      simp only [ho] at h
      cases ha : evArgs (evT P ops g s n) o.op.operands.toList g with
      | none => simp [ha] at h
      | some g' =>
        simp only [ha] at h
        have hg' := evArgs_rl (evT_rl hS hg n) ha hg
        classical
        let ρ : Operand → Value := fun x => if hx : ∃ v', VRel ι (ev g' x) v' then Classical.choose hx else undef
        have hr : ORho ι g' ρ o.op.operands.toList := by
          intro x _ hok
          have hx : ∃ v', VRel ι (ev g' x) v' := by
            cases x with
            | tmp t => exact hg' t
            | const v => exact ⟨v, .plainV hok⟩
            | func f => exact ⟨_, .func .nil .nil⟩
            | global _ => cases hok
          simp only [ρ, dif_pos hx]
          exact Classical.choose_spec hx
        have hok := cr_ok (P := P) o
        cases hc : cr P o.op with
        | pu f =>
          rw [hc] at hok; simp only [hc] at h
          obtain ⟨v', h1, _⟩ := hok ι g' ρ v h hr
          exact ⟨v', h1⟩
        | rd f =>
          rw [hc] at hok; simp only [hc] at h
          obtain ⟨v', h1, _⟩ := hok ι s w g' ρ v h hS hr
          exact ⟨v', h1⟩
        | al f => simp [hc] at h
        | hd f => simp [hc] at h

theorem mapLoop_ok (hK : KnownOk P K w0) (hmix : P.follows .mixedOrders = true) {ι : Inj} {hb : Nat} {sf : Suf} {fn nt : Nat} {g : T Value} {ds : List ADef} {d : Bool} {rest : List Fr} {s : S} {kind : CallKind} {tmps : Array Value} {ds' : List Deferred} {cs : List Frame} {w : World}
    (h : Run1 P B w0 ι hb sf fn nt g ds d none rest s ⟨kind, none⟩ tmps ds' cs w) (ht : TmpRel ι g tmps) {c : Code} {id : Nat} {p : Pat} (hpat : patOf c id = some p) {g' : T Value} {s' : S} (hm : mapLoop P K fn nt g p s = some (g', s'))
    {k : List AItem} {k' : List Item} (hk : ItsRel P nt ι sf.K k k') :
    ResPost' P B w0 ι s w (lone (mkF fn ⟨kind, none⟩ tmps ds' (.code (.loop c) :: .inBlock id :: k')) cs w) (.next ⟨⟨fn, nt, g', k, ds, .run, d, none⟩ :: rest, s'⟩) := by
  have hP := patOf_spec hpat
  unfold mapLoop at hm
  simp only [] at hm
  have hclr : ev (clearT (p.tn :: p.tok :: p.te :: (dstsL p.ops ++ dstsC p.rest)) g) (.tmp p.tn) = poi := clearT_mem (by simp)
  have ht0 := clearT_rel (p.tn :: p.tok :: p.te :: (dstsL p.ops ++ dstsC p.rest)) ht
  generalize clearT (p.tn :: p.tok :: p.te :: (dstsL p.ops ++ dstsC p.rest)) g = g0 at hm hclr ht0
  cases hit : ev g0 (.tmp p.it) with
  | pointer a =>
    cases a with
    | none => simp [hit] at hm
    | some a =>
      obtain ⟨r, off, sp⟩ := a
      cases off with
      | succ n => simp [hit] at hm
      | zero =>
        cases hut : updTmp p.rest with
        | none => simp [hit, hut] at hm
        | some q =>
          obtain ⟨mt, ty⟩ := q
          simp only [hit, hut] at hm
          cases hst0 : evT P (p.ops ++ opsC p.rest) g0 s 12 mt with
          | none => simp [hst0] at hm
          | some vst =>
          cases hst : vst with
          | map mm =>
            cases mm with
            | none => simp [hst0, hst] at hm
            | some m0 =>
              cases hty : P.underlying ty with
              | none => simp [hst0, hst, hty] at hm
              | some td =>
                cases td with
                | map kt et =>
                  simp only [hst0, hst, hty] at hm
                  cases hgr : s.h.get r with
                  | none => simp [hgr] at hm
                  | some obr =>
                    cases obr with
                    | iter mo c1 =>
                      cases mo with
                      | none => simp [hgr] at hm
                      | some m =>
                        cases hgm0 : s.h.get m0 with
                        | none => simp [hgr, hgm0] at hm
                        | some ob0 =>
                          cases ob0 with
                          | map es0 c0 =>
                            cases hkk : keyKind P kt with
                            | none => simp [hgr, hgm0, hkk] at hm
                            | some kk =>
                              simp only [hgr, hgm0, hkk] at hm
                              cases hgm : s.h.get m with
                              | none => simp [hgm] at hm
                              | some obm =>
                                cases obm with
                                | map es cm =>
                                  simp only [hgm] at hm
                                  cases hcond : Nat.beq c1 cm && !Nat.beq m m0 && Nat.ble s.lo m0 && Nat.ble s.lo r && Nat.blt p.tn nt && Nat.blt p.tok nt && Nat.blt p.te nt with
                                  | false => rw [hcond] at hm; cases hm
                                  | true =>
                                    rw [hcond] at hm; simp only [cond_true] at hm
                                    simp only [Bool.and_eq_true, Nat.beq_eq, Nat.ble_eq, Nat.blt_eq, Bool.not_eq_true'] at hcond
                                    obtain ⟨⟨⟨⟨⟨⟨rfl, hne⟩, hlo0⟩, hlor⟩, htn⟩, htok⟩, hte⟩ := hcond
                                    have hne' : m ≠ m0 := fun e => by rw [e, Nat.beq_refl] at hne; cases hne
                                    cases hrs : rounds P K fn nt g0 p (innerH s.h r m m0) m0 kk es s.nx es0 s.h with
                                    | none => simp [hrs] at hm
                                    | some q =>
                                      obtain ⟨nx, es', hh⟩ := q
                                      simp only [hrs, Option.some.injEq, Prod.mk.injEq] at hm
                                      obtain ⟨rfl, rfl⟩ := hm
                                      -- what is there
                                      have hv1 := ht0 p.it
                                      rw [hit] at hv1
                                      obtain ⟨lr, hir, _⟩ := hv1.ptr_inv
                                      obtain ⟨_, hv2⟩ := evT_rl h.srel (fun t => ⟨_, ht0 t⟩) _ _ _ hst0
                                      rw [hst] at hv2
                                      obtain ⟨lm0, him0, _⟩ := hv2.map_inv
                                      obtain ⟨obR, r1, r2⟩ := h.srel.obj r lr _ hir hgr
                                      cases r2 with
                                      | iter hbase him =>
                                        rename_i lm
                                        obtain ⟨obM, m1, m2⟩ := h.srel.obj m lm _ him hgm
                                        cases m2 with
                                        | map y1 y2 y3 y4 y5 =>
                                          rename_i srcE lst
                                          obtain ⟨ob0', z1, z2⟩ := h.srel.obj m0 lm0 _ him0 hgm0
                                          cases z2 with
                                          | map x1 x2 x3 x4 x5 =>
                                            rename_i dE dl
                                            obtain ⟨R, q0, q1, q2, q3, q4, q5, q6, q7⟩ := rounds_spec hrs x3
                                            obtain ⟨Z, zf, zs, zr⟩ := zip_rel q1 y2
                                            have hctx : LCtx P K w0 fn nt g0 p ι s w r m m0 lr lm lm0 c1 c0 srcE es0 kk Z nx := by
                                              refine ⟨h.srel, h.lo, h.ini, hir, him, him0, hgr, ⟨es, hgm⟩, hgm0, hbase, hne', r1, m1, y4, y5, fun hZ => q0 (fun e => hZ ?_), zr, by rw [zs]; exact y1, fun z hz => q2 z.1 (by rw [← zf]; exact List.mem_map_of_mem hz), by rw [zf]; exact q3, by rw [zf, ← q4]; exact q5⟩
                                              have : Z.length = 0 := by rw [← List.length_map (f := (·.1)), zf, e]; rfl
                                              exact List.eq_nil_of_length_eq_zero this
                                            have hstart := LI.start hctx ht0 h.size
                                            obtain ⟨Zd', ιd', hd', w', w'', tm, f1, f2, f3, f4⟩ := loop_all (P := P) (kind := kind) (ds' := ds') (cs := cs) (k' := k') hK hmix hctx hP htn htok hte hit h.func Z.length Z [] ι _ w tmps rfl (List.Perm.refl _) hstart
                                            have hm0lt := hctx.lt_nx him0
                                            have hnxle : s.nx ≤ nx := q3.le.1
                                            -- the heap in the end
                                            have hget : ∀ i, ((T.setF (Nat.succ r) hh r none).set m0 (.map es' (c0 + es.length))).get i = if i = m0 then some (.map es' (c0 + es.length)) else if i = r then none else hh.get i := by
                                              intro i; rw [T.get_set, T.get_setF _ _ _ _ _ (Nat.lt_succ_self r)]
                                            generalize (T.setF (Nat.succ r) hh r none).set m0 (.map es' (c0 + es.length)) = hfin at hget ⊢
                                            have hlen : Zd'.length = es.length := by
                                              rw [f1.length_eq, ← q1, List.length_map, ← zf, List.length_map]
                                            have hpermE : (es0 ++ newEs (Zd'.map (·.1))).Perm es' := by
                                              rw [q4, ← zf]
                                              refine List.Perm.append_left _ ?_
                                              unfold newEs
                                              exact (f1.map _).map _
                                            -- the map, put in order
                                            have hιd : Ext ι ιd' := fun i l hl => by rw [f2.low i (hctx.lt_nx hl)]; exact hl
                                            obtain ⟨od, o1, o2⟩ := f2.srel.obj m0 lm0 _ (hιd _ _ him0) f2.getm0
                                            have hod : ORel P ιd' lm0 (.map es' (c0 + es.length)) od := by
                                              rw [hlen] at o2
                                              cases o2 with
                                              | map a1 a2 a3 a4 a5 =>
                                                obtain ⟨l2, b1, b2⟩ := a2.perm hpermE
                                                exact .map (b1.trans a1) b2 ((List.Perm.pairwise_iff (fun {_ _} x => KeyNe.symm x) hpermE).1 a3) a4 a5
                                            have hput : WPut w' w' lm0.blk od := ⟨o1, fun _ _ => rfl, rfl, rfl, rfl, rfl⟩
                                            have hS1 := f2.srel.putO (hιd _ _ him0) f2.getm0 (by intro b; simp) (ob := .map es' (c0 + es.length)) (by intro q; simp [Par]) hput hod
                                            have hS2 : SRel P ιd' ⟨hfin, nx, s.lo⟩ w' := by
                                              refine hS1.congr (fun i hi => ?_) rfl
                                              simp only [S.put_get]
                                              rw [hget]
                                              by_cases e0 : i = m0
                                              · rw [if_pos e0, if_pos e0]
                                              · rw [if_neg e0, if_neg e0]
                                                by_cases er : i = r
                                                · rw [if_pos er, er, f2.getr]
                                                · rw [if_neg er]
                                                  obtain ⟨l, hl⟩ := Option.ne_none_iff_exists'.1 hi
                                                  by_cases hlt : i < s.nx
                                                  · rw [f2.get i hlt er e0, q7 i (.inl hlt)]
                                                  · obtain ⟨_, z, hz, h1, h2⟩ := f2.hi i l (by omega) hl
                                                    rw [f2.own z hz i h1 h2]
                                                    exact q6 z.1 (by rw [← zf]; exact List.mem_map_of_mem (f1.mem_iff.1 hz)) i h1 h2
                                            have hlowget : ∀ i, i < s.nx → i ≠ m0 → i ≠ r → hfin.get i = s.h.get i := by
                                              intro i hi e0 er; rw [hget, if_neg e0, if_neg er, q7 i (.inl hi)]
                                            have hF : Fm hb ι s w ιd' ⟨hfin, nx, s.lo⟩ w' := by
                                              have hownq : ∀ (q b : Nat), b < w.heap.size → (∃ i l o, q ≤ i ∧ ιd' i = some l ∧ l.blk = b ∧ hfin.get i = some o ∧ NotHole o) → ∃ i l o, q ≤ i ∧ ι i = some l ∧ l.blk = b ∧ s.h.get i = some o ∧ NotHole o := by
                                                rintro q b hbb ⟨i, l, o, a0, a1, a2, a3, a4⟩
                                                by_cases hlt : i < s.nx
                                                · rw [f2.low i hlt] at a1
                                                  by_cases e0 : i = m0
                                                  · subst e0; exact ⟨i, l, _, a0, a1, a2, hgm0, trivial⟩
                                                  · by_cases er : i = r
                                                    · rw [hget, if_neg e0, if_pos er] at a3; cases a3
                                                    · rw [hlowget i hlt e0 er] at a3; exact ⟨i, l, o, a0, a1, a2, a3, a4⟩
                                                · have := (f2.hi i l (by omega) a1).1; omega
                                              have hhb := h.hb
                                              refine ⟨hιd, ?_, ?_, f2.heap, ?_, ?_, ?_, ?_, rfl, hnxle, f2.size, f2.os, f2.out, f2.tape⟩
                                              · intro i hi hn
                                                refine ⟨by rw [f2.low i (by omega)]; exact hn, hlowget i (by omega) (fun e => ?_) (fun e => ?_)⟩
                                                · rw [e, him0] at hn; cases hn
                                                · rw [e, hir] at hn; cases hn
                                              · intro i l hn hs
                                                by_cases hlt : i < s.nx
                                                · rw [f2.low i hlt, hn] at hs; cases hs
                                                · exact .inl (f2.hi i l (by omega) hs).1
                                              · rintro b hbb ⟨i, l, o, a1⟩
                                                obtain ⟨i, l, o, _, a⟩ := hownq 0 b hbb ⟨i, l, o, Nat.zero_le _, a1⟩
                                                exact ⟨i, l, o, a⟩
                                              · intro b hbb ho
                                                exact hownq s.lo b hbb ho
                                              · intro i hi hn
                                                by_cases er : i = r
                                                · show hfin.get i = none
                                                  rw [hget, if_neg (by rw [er]; exact hctx.rm0), if_pos er]
                                                · show hfin.get i = none
                                                  rw [hlowget i hi (fun e => by rw [e, hgm0] at hn; cases hn) er]; exact hn
                                              · intro i hi
                                                have := h.lo
                                                exact hlowget i (by omega) (by omega) (by omega)
                                            -- the temporaries
                                            have hT1 : TmpRel ιd' g0 (pt tm (some p.tn) (.tuple #[.bool false])) := by
                                              intro t
                                              by_cases e : t = p.tn
                                              · subst e; rw [hclr]; exact .poi _
                                              · rw [pt_get (by simpa using Ne.symm e)]
                                                exact (f2.trel t).mono hιd
                                            have hT2 : TmpRel ιd' (g0.set p.tok (.bool false)) (pt (pt tm (some p.tn) (.tuple #[.bool false])) (some p.tok) (.bool false)) :=
                                              hT1.putD (nt := nt) (by rw [pt_size]; exact f2.tsz) (dst := some p.tok) (by simpa [dstOk] using htok) (.bool false)
                                            have hFs := hF.trans (Fm.same (hb := hb) f3)
                                            exact next_body h (.head (stepR_loop (b := bs fn ⟨kind, none⟩) (a := ⟨tmps, ds'⟩)) f4) (by rw [pt_size, pt_size]; exact f2.tsz) (hS2.same f3) hFs (.plain hT2 (hk.mono hιd))
                                | _ => simp [hgm] at hm
                          | _ => simp [hgr, hgm0] at hm
                    | _ => simp [hgr] at hm
                | _ => simp [hst0, hst, hty] at hm
          | _ => simp [hst0, hst] at hm
  | _ => simp [hit] at hm


end
end Go.AM
/- Loops over maps in every order. -/
namespace Go.AM
variable {P : Program} {K : Known} {w0 : Start} {B : Base}

/-- what rounds leave as it was, beside the iterator's block X -/
structure FmX (X : Nat) (hb : Nat) (ι : Inj) (s : S) (w : World) (ι' : Inj) (s' : S) (w' : World) : Prop where
  ext : Ext ι ι'
  keep : ∀ id, id < hb → ι id = none → ι' id = none ∧ s'.h.get id = s.h.get id
  new : ∀ id l, ι id = none → ι' id = some l → w.heap.size ≤ l.blk ∨ OwnedL ι s l.blk
  heap : ∀ b, b < w.heap.size → b ≠ X → ¬ Owned ι s b → w'.heap[b]? = w.heap[b]?
  own : ∀ b, b < w.heap.size → Owned ι' s' b → Owned ι s b
  ownL : ∀ b, b < w.heap.size → OwnedL ι' s' b → OwnedL ι s b
  absent : ∀ id, id < s.nx → s.h.get id = none → s'.h.get id = none
  low : ∀ id, id < s.lo → s'.h.get id = s.h.get id
  lo : s'.lo = s.lo
  nx : s.nx ≤ s'.nx
  size : w.heap.size ≤ w'.heap.size
  os : w'.os = w.os
  out : w'.output = w.output
  tape : w'.tape = w.tape

theorem FmX.ofFm {X hb : Nat} {ι ι' : Inj} {s s' : S} {w w' : World} (h : Fm hb ι s w ι' s' w') : FmX X hb ι s w ι' s' w' :=
  ⟨h.ext, h.keep, h.new, fun b hb _ ho => h.heap b hb ho, h.own, h.ownL, h.absent, h.low, h.lo, h.nx, h.size, h.os, h.out, h.tape⟩
theorem FmX.refl (X hb : Nat) (ι : Inj) (s : S) (w : World) : FmX X hb ι s w ι s w := .ofFm (Fm.refl hb ι s w)
theorem FmX.ofPut {X hb : Nat} {ι : Inj} {s : S} {w w' : World} {o : Obj} (h : WPut w w' X o) : FmX X hb ι s w ι s w' :=
  { FmX.refl X hb ι s w with
    heap := fun b _ hne _ => h.other b hne
    size := by rw [h.size]; exact Nat.le_refl _
    os := h.os, out := h.out, tape := h.tape }
theorem FmX.trans {X hb : Nat} {ι ι' ι'' : Inj} {s s' s'' : S} {w w' w'' : World} (h : FmX X hb ι s w ι' s' w') (k : FmX X hb ι' s' w' ι'' s'' w'') : FmX X hb ι s w ι'' s'' w'' where
  ext := h.ext.trans k.ext
  keep := fun id hi hn => let a := h.keep id hi hn; let b := k.keep id hi a.1; ⟨b.1, b.2.trans a.2⟩
  new := fun id l hn hs => by
    cases h' : ι' id with
    | some l' => rw [k.ext _ _ h'] at hs; cases hs; exact h.new id _ hn h'
    | none =>
      rcases k.new id l h' hs with a | a
      · exact .inl (Nat.le_trans h.size a)
      · rcases Nat.lt_or_ge l.blk w.heap.size with b | b
        · exact .inr (h.ownL _ b a)
        · exact .inl b
  heap := fun b hb' hne ho => by
    rw [k.heap b (Nat.lt_of_lt_of_le hb' h.size) hne (fun x => ho (h.own b hb' x)), h.heap b hb' hne ho]
  own := fun b hb' ho => h.own b hb' (k.own b (Nat.lt_of_lt_of_le hb' h.size) ho)
  ownL := fun b hb' ho => h.ownL b hb' (k.ownL b (Nat.lt_of_lt_of_le hb' h.size) ho)
  absent := fun id hi hg => k.absent id (Nat.lt_of_lt_of_le hi h.nx) (h.absent id hi hg)
  low := fun id hi => by rw [k.low id (by rw [h.lo]; exact hi), h.low id hi]
  lo := k.lo.trans h.lo
  nx := Nat.le_trans h.nx k.nx
  size := Nat.le_trans h.size k.size
  os := k.os.trans h.os
  out := k.out.trans h.out
  tape := k.tape.trans h.tape
theorem FmX.weaken {X hb hb' : Nat} {ι ι' : Inj} {s s' : S} {w w' : World} (h : FmX X hb ι s w ι' s' w') (hle : hb' ≤ hb) : FmX X hb' ι s w ι' s' w' :=
  { h with keep := fun id hi hn => h.keep id (Nat.lt_of_lt_of_le hi hle) hn }

/-! ### one round -/

section
variable {fn nt : Nat} {g0 : T Value} {p : Pat} {m : Nat} {kind : CallKind} {ds' : List Deferred} {cs : List Frame}

theorem isHole_eq {o : Option AObj} (h : isHole o = true) : o = some .hole := by
  cases o with
  | none => cases h
  | some o => cases o <;> first | rfl | cases h

theorem fork1_ok (hK : KnownOk P K w0) (hmix : P.follows .mixedOrders = true) {ι : Inj} {s s2 : S} {w : World} {k v : Value} (hf : fork1 P K fn nt g0 p m s k v = some s2)
    {tmps tmps0 : Array Value} {Kin : List Item} (hS : SRel P ι s w) (hini : Ini w0 ι s w) (hlo : s.lo ≤ s.nx) (hfunc : ∃ f, P.funcs[fn]? = some f) (hops : p.all.toList.drop 1 = p.ops) (hal : 1 ≤ p.all.size)
    (ht : TmpRel ι (startG p g0 k v) tmps) (hn : tmps.size = nt) (ht0 : TmpRel ι g0 tmps0) (hn0 : tmps0.size = nt) :
    ∃ ι2 w2 tmps', Steps P (lone (mkF fn ⟨kind, none⟩ tmps ds' (.inRegion p.all (List.range' 1 (p.all.size - 1)) :: .code p.rest :: Kin)) cs w) (lone (mkF fn ⟨kind, none⟩ tmps' ds' Kin) cs w2) ∧
      SRel P ι2 s2 w2 ∧ Fm s.nx ι s w ι2 s2 w2 ∧ TmpRel ι2 g0 tmps' ∧ tmps'.size = nt ∧ s2.h.get m = some .hole := by
  let B : Base := ⟨⟨Kin, ds', none, some (fn, nt, kind)⟩, s.nx, cs⟩
  have hR0 : RSt P B w0 ι s.nx B.sf (startFr P fn nt p g0 k v) [] s (mkF fn ⟨kind, none⟩ tmps ds' (.inRegion p.all (List.range' 1 (p.all.size - 1)) :: .code p.rest :: Kin)) cs w := by
    refine ⟨.base, ⟨rfl, hfunc, .none, fun x => absurd rfl x, ⟨nofun, fun q hq => by cases hq; exact ⟨rfl, rfl, rfl⟩⟩, hn, .nil, .run, fun _ => .plain ht ?_, fun x => absurd rfl x⟩, hS, Nat.le_refl _, hlo, hini⟩
    simp only [startFr]
    rw [← hops]
    exact .cons (.ops p.all 1 hal) (.cons (.code p.rest) .nil)
  unfold fork1 at hf
  have h1 := runB_ok hK hmix 2000 hR0
  cases hb1 : runB P K 2000 ⟨[startFr P fn nt p g0 k v], s⟩ with
  | next _ => simp [hb1] at hf
  | upd _ _ _ _ _ => simp [hb1] at hf
  | stop _ _ => simp [hb1] at hf
  | bad _ => simp [hb1] at hf
  | idle fr3 s3 =>
    rw [hb1] at h1 hf
    obtain ⟨ι2, top, w3, e3, e4, st3, R3, F2⟩ := h1
    obtain ⟨fa, fb, g1, fc, fd, fe, ff, fg⟩ := fr3
    cases fd with
    | cons _ _ => simp at hf
    | nil =>
      cases fg with
      | some _ => simp at hf
      | none =>
        simp only [] at hf
        cases hkp : keptT g0 g1 nt && isHole (s3.h.get m) with
        | false => rw [hkp] at hf; cases hf
        | true =>
          rw [hkp] at hf
          simp only [cond_true, Option.some.injEq] at hf
          subst hf
          simp only [Bool.and_eq_true] at hkp
          obtain ⟨hkp, hho⟩ := hkp
          simp only at e3 e4
          subst e3 e4
          have T3 := R3.top
          obtain ⟨k1, k2, k3⟩ := T3.kind.2 _ rfl
          simp only at k1 k2
          subst k1 k2
          have hmode : top.mode = .run := by
            have := T3.mode
            generalize top.mode = mm at this
            cases this; rfl
          have htd : top.todo = Kin ∧ TmpRel ι2 g1 top.tmps := by
            have := T3.body rfl
            simp only at this
            generalize top.todo = td at this
            cases this with
            | plain a b => cases b; exact ⟨rfl, a⟩
          have hdd : top.defers = ds' := by
            have := T3.defers
            generalize top.defers = td at this
            cases this; rfl
          have htop : top = mkF fa ⟨kind, none⟩ top.tmps ds' Kin := by
            have := frame_eta top hmode
            rw [T3.fn, k3, hdd, htd.1, T3.rnd.isNone] at this
            exact this
          rw [htop] at st3
          exact ⟨ι2, w3, top.tmps, st3, R3.srel, F2, (kept_rel F2.ext hn0 T3.size ht0 htd.2 hkp).mono F2.ext, T3.size, isHole_eq hho⟩

/-! ### all rounds -/

theorem picks_mem {α : Type} : ∀ (pre A : List α) (z : α) (B : List α), (z, pre ++ A ++ B) ∈ picks pre (A ++ z :: B)
  | pre, [], z, B => by simp [picks]
  | pre, a :: A, z, B => by
    have := picks_mem (pre ++ [a]) A z B
    simp only [List.cons_append, picks, List.mem_cons]
    right
    simpa using this
theorem overL_mem {α β : Type} {f : α → Option (List β)} : ∀ {l : List α} {L : List β}, overL f l = some L → ∀ x ∈ l, ∃ a, f x = some a ∧ ∀ y ∈ a, y ∈ L
  | [], L, _, x, hx => by simp at hx
  | z :: l, L, h, x, hx => by
    simp only [overL] at h
    cases hf : f z with
    | none => simp [hf] at h
    | some a =>
      cases ho : overL f l with
      | none => simp [hf, ho] at h
      | some b =>
        simp only [hf, ho, Option.some.injEq] at h; subst h
        rcases List.mem_cons.1 hx with rfl | hx
        · exact ⟨a, hf, fun y hy => by simp [hy]⟩
        · obtain ⟨a2, q1, q2⟩ := overL_mem ho x hx
          exact ⟨a2, q1, fun y hy => by simp [q2 y hy]⟩

/-- what stands in an iterator's block -/
theorem dead_at {ι : Inj} {s : S} {w : World} (hS : SRel P ι s w) {X mb c c' : Nat} {seen : Array Nat} (hx : w.heap[X]? = some (.mapIter (some mb) c seen c')) (hno : ¬ Owned ι s X) {id : Nat} {l : Loc} {o : AObj} (hi : ι id = some l) (hl : l.blk = X) (hg : s.h.get id = some o) :
    ∃ (cc : T Value) (n : Nat) (e : TypeId) (q : Option Nat) (st : Nat), o = .blk ⟨cc, n, e, q, st⟩ ∧ 2 ≤ st := by
  obtain ⟨o', h1, h2⟩ := hS.obj id l o hi hg
  rw [hl, hx] at h1; cases h1
  cases h2 with
  | dead _ hd => exact ⟨_, _, _, _, _, rfl, hd⟩
  | iter a b => exact absurd ⟨id, l, _, hi, hl, hg, trivial⟩ hno

structure FCtx (P : Program) (w0 : Start) (fn nt : Nat) (g0 : T Value) (p : Pat) (r m : Nat) (sp : Option Nat) (lr lm : Loc) (c : Nat) (srcE : Array MapEntry) : Prop where
  func : ∃ f, P.funcs[fn]? = some f
  ops : p.all.toList.drop 1 = p.ops
  al : 1 ≤ p.all.size
  tn : p.tn < nt
  tok : p.tok < nt
  te : p.te < nt
  it : ev g0 (.tmp p.it) = .pointer (some ⟨r, 0, sp⟩)
  base : lr.base = 0
  born : ∀ e ∈ srcE.toList, e.born < c
  nodup : (srcE.toList.map (·.born)).Nodup
  apart : lr.blk ≠ lm.blk
  ge : w0.heap.size ≤ lr.blk

theorem forks_ok (hK : KnownOk P K w0) (hmix : P.follows .mixedOrders = true) {r : Nat} {sp : Option Nat} {lr lm : Loc} {c : Nat} {srcE : Array MapEntry} (hC : FCtx P w0 fn nt g0 p r m sp lr lm c srcE) {code : Code} {id : Nat} (hpat : PatOf code id p) {k' : List Item} :
    ∀ (f : Nat) (Zr : List ((Value × Value) × MapEntry)) (Zd : List MapEntry) (ι : Inj) (s : S) (w : World) (tmps : Array Value) (L : List S), forks P K fn nt g0 p m f (Zr.map (·.1)) s = some L →
      (Zd ++ Zr.map (·.2)).Perm srcE.toList → (∀ z ∈ Zr, VRel ι z.1.1 z.2.key ∧ VRel ι z.1.2 z.2.val) →
      w.heap[lr.blk]? = some (.mapIter (some lm.blk) c (Zd.map (·.born)).toArray c) → w.heap[lm.blk]? = some (.map srcE c) → ¬ Owned ι s lr.blk → ¬ Owned ι s lm.blk → ι r = some lr →
      SRel P ι s w → Ini w0 ι s w → s.lo ≤ s.nx → TmpRel ι g0 tmps → tmps.size = nt → s.h.get m = some .hole →
      ∃ s2 ∈ L, ∃ ι2 w2 w3 tmps', WSame w2 w3 ∧ Steps P (lone (mkF fn ⟨kind, none⟩ tmps ds' (.code code :: .inLoop code :: .inBlock id :: k')) cs w)
          (lone (mkF fn ⟨kind, none⟩ (pt (pt tmps' (some p.tn) (.tuple #[.bool false])) (some p.tok) (.bool false)) ds' k') cs w3) ∧
        SRel P ι2 s2 w2 ∧ FmX lr.blk s.nx ι s w ι2 s2 w2 ∧ TmpRel ι2 g0 tmps' ∧ tmps'.size = nt ∧ s2.h.get m = some .hole ∧ w2.heap[lm.blk]? = some (.map srcE c) := by
  intro f
  induction f with
  | zero => intro Zr Zd ι s w tmps L hf; simp [forks] at hf
  | succ f ih =>
    intro Zr Zd ι s w tmps L hf hperm hrel hiter hsrc hno1 hno2 hir hS hini hlo ht hsz hhole
    have hitc : rho tmps (.tmp p.it) = .pointer (some ⟨lr.blk, 0, none⟩) := by
      have := ht p.it
      rw [hC.it] at this
      obtain ⟨l, h1, h2⟩ := this.ptr_inv
      rw [hir] at h1; cases h1
      rw [hC.base] at h2
      exact h2
    cases Zr with
    | nil =>
      simp only [List.map_nil, forks, Option.some.injEq] at hf; subst hf
      simp only [List.map_nil, List.append_nil] at hperm
      have hno : ∀ e ∈ srcE.toList, ((Zd.map (·.born)).toArray).contains e.born = true := by
        intro e he
        have : e ∈ Zd := hperm.mem_iff.2 he
        simp only [List.contains_toArray, List.contains_eq_mem, decide_eq_true_eq, List.mem_map]
        exact ⟨e, this, rfl⟩
      have hnx : ∃ w', (∀ t, (Instr.next (.pointer (some ⟨lr.blk, 0, none⟩)) false t).run P w = .ok (.tuple #[.bool false]) w') ∧ WSame w w' := by
        rcases next_run (P := P) hiter hsrc hC.born 0 with ⟨_, w', h1, h2⟩ | ⟨e, he, hns, _⟩
        · exact ⟨w', fun t => h1, h2⟩
        · rw [hno e he] at hns; cases hns
      obtain ⟨w', h1, h2⟩ := hnx
      exact ⟨s, by simp, ι, w, w', tmps, h2, iter_over hpat hsz hC.tn hC.tok hitc h1, hS, FmX.refl _ _ _ _ _, ht, hsz, hhole, hsrc⟩
    | cons z0 Zr0 =>
      have hnd : ((Zd ++ (z0 :: Zr0).map (·.2)).map (·.born)).Nodup := (hperm.map (·.born)).nodup_iff.2 hC.nodup
      rcases next_run (P := P) hiter hsrc hC.born 0 with ⟨hall, _⟩ | ⟨e, he, hns, wa, hrun, hput⟩
      · exfalso
        have hz : z0.2 ∈ srcE.toList := hperm.mem_iff.1 (by simp)
        have h1 := hall z0.2 hz
        simp only [List.contains_toArray, List.contains_eq_mem, decide_eq_true_eq, List.mem_map] at h1
        obtain ⟨y, hy, e⟩ := h1
        rw [List.map_append, List.nodup_append] at hnd
        exact hnd.2.2 _ (List.mem_map_of_mem (f := fun e : MapEntry => e.born) hy) _ (List.mem_map_of_mem (f := fun e : MapEntry => e.born) (by simp : z0.2 ∈ (z0 :: Zr0).map (·.2))) e
      · have hez : e ∈ Zd ++ (z0 :: Zr0).map (·.2) := hperm.mem_iff.2 he
        have hzr : ∃ z ∈ z0 :: Zr0, z.2 = e := by
          rcases List.mem_append.1 hez with hz | hz
          · exfalso
            have : ((Zd.map (·.born)).toArray).contains e.born = true := by
              simp only [List.contains_toArray, List.contains_eq_mem, decide_eq_true_eq, List.mem_map]
              exact ⟨e, hz, rfl⟩
            rw [hns] at this; cases this
          · obtain ⟨z, h1, h2⟩ := List.mem_map.1 hz
            exact ⟨z, h1, h2⟩
        obtain ⟨z, hzm, rfl⟩ := hzr
        obtain ⟨A, Bz, hAB⟩ := List.append_of_mem hzm
        rw [hAB] at hf hperm hrel hnd
        have hf' : overL (fun q => match fork1 P K fn nt g0 p m s q.1.1 q.1.2 with
            | none => none
            | some s2 => forks P K fn nt g0 p m f q.2 s2) (picks [] ((A ++ z :: Bz).map (·.1))) = some L := by
          have hne : ∃ x l, (A ++ z :: Bz).map (·.1) = x :: l := by
            cases A with
            | nil => exact ⟨_, _, rfl⟩
            | cons a A => exact ⟨_, _, rfl⟩
          obtain ⟨x, l, hxl⟩ := hne
          rw [hxl] at hf ⊢
          simp only [forks] at hf; exact hf
        have hpk : (z.1, (A ++ Bz).map (·.1)) ∈ picks [] ((A ++ z :: Bz).map (·.1)) := by
          have := picks_mem [] (A.map (·.1)) z.1 (Bz.map (·.1))
          simpa using this
        obtain ⟨La, hfa, hLa⟩ := overL_mem hf' _ hpk
        simp only [] at hfa
        cases hf1 : fork1 P K fn nt g0 p m s z.1.1 z.1.2 with
        | none => simp [hf1] at hfa
        | some s1 =>
          simp only [hf1] at hfa
          obtain ⟨rk, rv⟩ := hrel z (by simp)
          have hsrcA : wa.heap[lm.blk]? = some (.map srcE c) := by rw [hput.other _ hC.apart.symm]; exact hsrc
          have hent := entry_run (P := P) hput.at_ hsrcA he hC.nodup
          have hbeg := iter_begin (P := P) (fn := fn) (kind := ⟨kind, none⟩) (ds' := ds') (cs := cs) (Kl := .inLoop code :: .inBlock id :: k') hpat hsz hC.tn hC.tok hitc (fun _ => hrun) hent
          have hT3 := startG_rel (p := p) ht hsz hC.tn hC.tok hC.te rk rv
          have hSA : SRel P ι s wa := by
            refine hS.touch hput ?_
            intro i l o hi hl hg
            obtain ⟨cc, n, ee, q, st, rfl, hd⟩ := dead_at hS hiter hno1 hi hl hg
            exact .dead _ hd
          have hiniA : Ini w0 ι s wa := by
            have := hC.ge
            refine ⟨by rw [hput.size]; exact hini.size, fun b hb => ?_, hini.own, by rw [hput.out, hini.out], by rw [hput.os, hini.os], by rw [hput.tape, hini.tape], hini.pin⟩
            rw [hput.other b (by omega)]; exact hini.same b hb
          obtain ⟨ι1, w1, tmps1, st1, S1, F1, ht1, hsz1, hho1⟩ := fork1_ok (P := P) (kind := kind) (ds' := ds') (cs := cs) (Kin := .inBlock p.id2 :: .inLoop code :: .inBlock id :: k') hK hmix hf1 hSA hiniA hlo hC.func hC.ops hC.al hT3
            (by rw [pt_size, pt_size, pt_size]; exact hsz) ht hsz
          have hXlt : lr.blk < wa.heap.size := hSA.bound _ _ hir
          have hMlt : lm.blk < wa.heap.size := by
            rcases Nat.lt_or_ge lm.blk wa.heap.size with x | x
            · exact x
            · rw [Array.getElem?_eq_none x] at hsrcA; cases hsrcA
          have hno1' : ¬ Owned ι1 s1 lr.blk := fun h => hno1 (F1.own _ hXlt h)
          have hno2' : ¬ Owned ι1 s1 lm.blk := fun h => hno2 (F1.own _ hMlt h)
          have hiter1 : w1.heap[lr.blk]? = some (.mapIter (some lm.blk) c ((Zd ++ [z.2]).map (·.born)).toArray c) := by
            rw [F1.heap _ hXlt hno1, hput.at_]
            simp
          have hsrc1 : w1.heap[lm.blk]? = some (.map srcE c) := by rw [F1.heap _ hMlt hno2]; exact hsrcA
          have hperm1 : ((Zd ++ [z.2]) ++ (A ++ Bz).map (·.2)).Perm srcE.toList := by
            refine List.Perm.trans ?_ hperm
            rw [List.append_assoc]
            refine List.Perm.append_left _ ?_
            simp only [List.map_append, List.map_cons, List.singleton_append]
            exact List.perm_middle.symm
          have hnx1 := F1.nx
          have hlo1 := F1.lo
          obtain ⟨s2, hs2, ι2, w2, w3, tmps', q1, q2, q3, q4, q5, q6, q7, q8⟩ := ih (A ++ Bz) (Zd ++ [z.2]) ι1 s1 w1 tmps1 La hfa hperm1
            (fun y hy => by
              have := hrel y (by rcases List.mem_append.1 hy with h | h <;> simp [h])
              exact ⟨this.1.mono F1.ext, this.2.mono F1.ext⟩)
            hiter1 hsrc1 hno1' hno2' (F1.ext _ _ hir) S1 (hiniA.fm F1) (by omega) ht1 hsz1 hho1
          refine ⟨s2, hLa s2 hs2, ι2, w2, w3, tmps', q1, hbeg.trans (st1.trans (iter_end.trans q2)), q3, ?_, q5, q6, q7, q8⟩
          exact (FmX.ofPut hput).trans ((FmX.ofFm F1).trans (q4.weaken (by omega)))

end
end Go.AM
/- Loops over maps in every order: the whole loop. -/
namespace Go.AM
noncomputable section
variable {P : Program} {K : Known} {w0 : Start} {B : Base}

theorem restM_get (m : Nat) (ob : AObj) (s : S) (id : Nat) : (restM m ob s).h.get id = if id = m then some ob else s.h.get id := by
  cases s; simp [restM, T.get_set]
theorem restM_nx (m : Nat) (ob : AObj) (s : S) : (restM m ob s).nx = s.nx := by cases s; rfl
theorem restM_lo (m : Nat) (ob : AObj) (s : S) : (restM m ob s).lo = s.lo := by cases s; rfl

theorem entries_not {ob : AObj} {es : List (Value × Value)} {c : Nat} (h : entriesOf ob = some (es, c)) : (∀ b, ob ≠ .blk b) ∧ (∀ p, ¬ Par ob p) ∧ ¬ Dead ob ∧ NotHole ob ∧ ∀ m k, ob ≠ .iter m k := by
  cases ob <;> simp [entriesOf] at h <;> exact ⟨by intro b; simp, by intro p; simp [Par], by simp [Dead], trivial, by intro m k; simp⟩
theorem entries_rel {P : Program} {ι : Inj} {l : Loc} {ob : AObj} {es : List (Value × Value)} {c : Nat} {o' : Obj} (h : entriesOf ob = some (es, c)) (r : ORel P ι l ob o') :
    ∃ es' lst, o' = .map es' c ∧ lst.Perm es'.toList ∧ EsRel ι es lst ∧ (∀ e ∈ es'.toList, e.born < c) ∧ (es'.toList.map (·.born)).Nodup := by
  cases r with
  | map a b d e f => simp only [entriesOf, Option.some.injEq, Prod.mk.injEq] at h; obtain ⟨rfl, rfl⟩ := h; exact ⟨_, _, rfl, a, b, e, f⟩
  | pmap a b d e f g => simp only [entriesOf, Option.some.injEq, Prod.mk.injEq] at h; obtain ⟨rfl, rfl⟩ := h; exact ⟨_, _, rfl, a, b, f, g⟩
  | _ => simp [entriesOf] at h

def innS (s : S) (r m : Nat) : S := ⟨(T.setF (Nat.succ r) s.h r none).set m .hole, s.nx, s.lo⟩
theorem innS_get (s : S) (r m id : Nat) : (innS s r m).h.get id = if id = m then some .hole else if id = r then none else s.h.get id := by
  simp only [innS, T.get_set, T.get_setF _ _ _ _ _ (Nat.lt_succ_self r)]

section
variable {ι : Inj} {s : S} {w : World} {r m : Nat} {lr lm : Loc} {c : Nat} {es : List (Value × Value)} {ob : AObj}

theorem innS_cases (id : Nat) (o : AObj) (hg : (innS s r m).h.get id = some o) : (o = .hole ∧ id = m) ∨ (s.h.get id = some o ∧ id ≠ r ∧ id ≠ m) := by
  rw [innS_get] at hg
  by_cases e2 : id = m
  · rw [if_pos e2] at hg; cases hg; exact .inl ⟨rfl, e2⟩
  · rw [if_neg e2] at hg
    by_cases e3 : id = r
    · rw [if_pos e3] at hg; cases hg
    · rw [if_neg e3] at hg; exact .inr ⟨hg, e3, e2⟩

theorem SRel.innS (h : SRel P ι s w) (hm : s.h.get m = some ob) (hob : entriesOf ob = some (es, c)) : SRel P ι (innS s r m) w := by
  obtain ⟨n1, n2, n3, n4, n5⟩ := entries_not hob
  refine ⟨?_, h.fresh, h.bound, ?_, ?_⟩
  · intro id l o hi hg
    rcases innS_cases id o hg with ⟨rfl, rfl⟩ | ⟨x, _⟩
    · obtain ⟨o', h1, h2⟩ := h.obj id l _ hi hm
      obtain ⟨_, _, rfl, _⟩ := entries_rel hob h2
      exact ⟨_, h1, .hole⟩
    · exact h.obj id l o hi x
  · intro id1 id2 l1 l2 o1 o2 hne i1 i2 hbl g1 g2
    rcases innS_cases id1 o1 g1 with ⟨rfl, rfl⟩ | ⟨x, x1, x2⟩
    · rcases innS_cases id2 o2 g2 with ⟨rfl, rfl⟩ | ⟨y, _⟩
      · exact absurd rfl hne
      · exact .inr (.inl (h.alone i1 i2 hne hbl hm y n1))
    · rcases innS_cases id2 o2 g2 with ⟨rfl, rfl⟩ | ⟨y, _⟩
      · exact .inl (h.alone i2 i1 (Ne.symm hne) hbl.symm hm x n1)
      · exact h.alias id1 id2 l1 l2 o1 o2 hne i1 i2 hbl x y
  · intro id o q hg hi hd hp
    rcases innS_cases id o hg with ⟨rfl, _⟩ | ⟨x, _⟩
    · simp [Par] at hp
    · obtain ⟨y1, y2⟩ := h.par id o q x hi hd hp
      refine ⟨y1, fun o' ho' => ?_⟩
      rcases innS_cases q o' ho' with ⟨rfl, rfl⟩ | ⟨z, _⟩
      · obtain ⟨b, e, _⟩ := y2 _ hm; exact absurd e (n1 b)
      · exact y2 o' z

theorem innS_owned {b : Nat} (ho : Owned ι (innS s r m) b) : ∃ id l o, id ≠ r ∧ id ≠ m ∧ ι id = some l ∧ l.blk = b ∧ s.h.get id = some o ∧ NotHole o := by
  obtain ⟨id, l, o, a1, a2, a3, a4⟩ := ho
  rcases innS_cases id o a3 with ⟨rfl, _⟩ | ⟨x, x1, x2⟩
  · exact absurd a4 (by simp [NotHole])
  · exact ⟨id, l, o, x1, x2, a1, a2, x, a4⟩

theorem innS_notOwned (h : SRel P ι s w) {b : Nat} {o0 : AObj} {a : Nat} {la : Loc} (ia : ι a = some la) (hab : la.blk = b) (ga : s.h.get a = some o0) (hnb : ∀ x, o0 ≠ .blk x) (ha : a = r ∨ a = m) : ¬ Owned ι (innS s r m) b := by
  intro ho
  obtain ⟨id, l, o, e1, e2, i1, i2, g, n⟩ := innS_owned ho
  have hne : a ≠ id := by rcases ha with rfl | rfl <;> exact Ne.symm (by assumption)
  exact dead_not (h.alone ia i1 hne (by rw [hab, i2]) ga g hnb) n

/-- after the loop -/
theorem restM_rel {ι2 : Inj} {s2 : S} {w2 : World} {srcE : Array MapEntry} {hb : Nat} (h : SRel P ι s w) (hir : ι r = some lr) (him : ι m = some lm) (hgr : s.h.get r = some (.iter (some m) c)) (hgm : s.h.get m = some ob) (hob : entriesOf ob = some (es, c)) (hlr : s.lo ≤ r)
    (hsrc : w.heap[lm.blk]? = some (.map srcE c)) (hS2 : SRel P ι2 s2 w2) (hF : FmX lr.blk hb ι (innS s r m) w ι2 s2 w2) (hho : s2.h.get m = some .hole) (hsrc2 : w2.heap[lm.blk]? = some (.map srcE c)) :
    SRel P ι2 (restM m ob s2) w2 ∧ Fm hb ι s w ι2 (restM m ob s2) w2 := by
  have him2 : ι2 m = some lm := hF.ext _ _ him
  obtain ⟨n1, n2, n3, n4, n5⟩ := entries_not hob
  have hcs : ∀ id o, (restM m ob s2).h.get id = some o → (o = ob ∧ id = m) ∨ (s2.h.get id = some o ∧ id ≠ m) := by
    intro id o hg
    rw [restM_get] at hg
    by_cases e : id = m
    · rw [if_pos e] at hg; cases hg; exact .inl ⟨rfl, e⟩
    · rw [if_neg e] at hg; exact .inr ⟨hg, e⟩
  have hrm : r ≠ m := by intro e; rw [e, hgm] at hgr; exact n5 _ _ (Option.some.inj hgr)
  have hmap : ORel P ι2 lm ob (.map srcE c) := by
    obtain ⟨o', h1, h2⟩ := h.obj m lm _ him hgm
    rw [hsrc] at h1; cases h1
    exact h2.mono hF.ext
  have hiter : Owned ι s lr.blk := ⟨r, lr, _, hir, rfl, hgr, trivial⟩
  have hinn : ∀ b, Owned ι (AM.innS s r m) b → Owned ι s b := by
    intro b ho
    obtain ⟨id, l, o, _, _, a1, a2, a3, a4⟩ := innS_owned ho
    exact ⟨id, l, o, a1, a2, a3, a4⟩
  have hinnL : ∀ b, OwnedL ι (AM.innS s r m) b → OwnedL ι s b := by
    rintro b ⟨id, l, o, a0, a1, a2, a3, a4⟩
    rcases innS_cases id o a3 with ⟨rfl, _⟩ | ⟨x, _, _⟩
    · exact absurd a4 (by simp [NotHole])
    · exact ⟨id, l, o, a0, a1, a2, x, a4⟩
  refine ⟨⟨?_, fun id hi => hS2.fresh id (by rw [restM_nx] at hi; exact hi), hS2.bound, ?_, ?_⟩, ?_⟩
  · intro id l o hi hg
    rcases hcs id o hg with ⟨rfl, rfl⟩ | ⟨x, _⟩
    · rw [him2] at hi; cases hi; exact ⟨_, hsrc2, hmap⟩
    · exact hS2.obj id l o hi x
  · intro id1 id2 l1 l2 o1 o2 hne i1 i2 hbl g1 g2
    rcases hcs id1 o1 g1 with ⟨rfl, rfl⟩ | ⟨x, _⟩
    · rcases hcs id2 o2 g2 with ⟨rfl, rfl⟩ | ⟨y, _⟩
      · exact absurd rfl hne
      · rcases hS2.alias id1 id2 l1 l2 _ o2 hne i1 i2 hbl hho y with a | a | a | a
        · simp [Dead] at a
        · exact .inr (.inl a)
        · simp [Par] at a
        · exact .inr (.inr (.inr a))
    · rcases hcs id2 o2 g2 with ⟨rfl, rfl⟩ | ⟨y, _⟩
      · rcases hS2.alias id1 id2 l1 l2 o1 _ hne i1 i2 hbl x hho with a | a | a | a
        · exact .inl a
        · simp [Dead] at a
        · exact .inr (.inr (.inl a))
        · simp [Par] at a
      · exact hS2.alias id1 id2 l1 l2 o1 o2 hne i1 i2 hbl x y
  · intro id o q hg hi hd hp
    rcases hcs id o hg with ⟨rfl, _⟩ | ⟨x, _⟩
    · exact absurd hp (n2 _)
    · obtain ⟨y1, y2⟩ := hS2.par id o q x hi hd hp
      refine ⟨y1, fun o' ho' => ?_⟩
      rcases hcs q o' ho' with ⟨rfl, rfl⟩ | ⟨z, _⟩
      · obtain ⟨b, e, _⟩ := y2 _ hho; cases e
      · exact y2 o' z
  · refine ⟨hF.ext, ?_, ?_, ?_, ?_, ?_, ?_, ?_, by rw [restM_lo]; exact hF.lo, by rw [restM_nx]; exact hF.nx, hF.size, hF.os, hF.out, hF.tape⟩
    · intro id hi hn
      obtain ⟨a, b⟩ := hF.keep id hi hn
      refine ⟨a, ?_⟩
      have e1 : id ≠ m := fun e => by rw [e, him] at hn; cases hn
      have e2 : id ≠ r := fun e => by rw [e, hir] at hn; cases hn
      rw [restM_get, if_neg e1, b, innS_get, if_neg e1, if_neg e2]
    · intro id l hn hs
      rcases hF.new id l hn hs with a | a
      · exact .inl a
      · exact .inr (hinnL _ a)
    · intro b hbb hno
      exact hF.heap b hbb (fun e => hno (e ▸ hiter)) (fun ho => hno (hinn b ho))
    · rintro b hbb ⟨id, l, o, a1, a2, a3, a4⟩
      rcases hcs id o a3 with ⟨rfl, rfl⟩ | ⟨x, _⟩
      · rw [him2] at a1; cases a1; exact ⟨id, lm, _, him, a2, hgm, n4⟩
      · exact hinn b (hF.own b hbb ⟨id, l, o, a1, a2, x, a4⟩)
    · rintro b hbb ⟨id, l, o, a0, a1, a2, a3, a4⟩
      rw [restM_lo] at a0
      rcases hcs id o a3 with ⟨rfl, rfl⟩ | ⟨x, _⟩
      · rw [him2] at a1; cases a1
        have hlo : s2.lo = s.lo := hF.lo
        exact ⟨id, lm, _, by rw [← hlo]; exact a0, him, a2, hgm, n4⟩
      · exact hinnL b (hF.ownL b hbb ⟨id, l, o, a0, a1, a2, x, a4⟩)
    · intro id hi hg
      have e1 : id ≠ m := fun e => by rw [e, hgm] at hg; cases hg
      rw [restM_get, if_neg e1]
      refine hF.absent id hi ?_
      rw [innS_get, if_neg e1]
      by_cases e2 : id = r
      · rw [if_pos e2]
      · rw [if_neg e2]; exact hg
    · intro id hi
      rw [restM_get]
      by_cases e1 : id = m
      · rw [if_pos e1, e1, hgm]
      · have e2 : id ≠ r := fun e => by omega
        rw [if_neg e1, hF.low id hi, innS_get, if_neg e1, if_neg e2]

end

theorem zip_relF {ι : Inj} : ∀ {es : List (Value × Value)} {lst : List MapEntry}, EsRel ι es lst → ∃ Z : List ((Value × Value) × MapEntry), Z.map (·.1) = es ∧ Z.map (·.2) = lst ∧ ∀ z ∈ Z, VRel ι z.1.1 z.2.key ∧ VRel ι z.1.2 z.2.val
  | _, _, .nil => ⟨[], rfl, rfl, fun z hz => by simp at hz⟩
  | (k, v) :: es, _, .cons a b c => by
    obtain ⟨Z, h1, h2, h3⟩ := zip_relF c
    refine ⟨((k, v), _) :: Z, by simp [h1], by simp [h2]; rfl, fun z hz => ?_⟩
    rcases List.mem_cons.1 hz with rfl | hz
    · exact ⟨a, b⟩
    · exact h3 z hz

theorem forkLoop_ok (hK : KnownOk P K w0) (hmix : P.follows .mixedOrders = true) {ι : Inj} {hb : Nat} {sf : Suf} {fn nt : Nat} {g : T Value} {ds : List ADef} {d : Bool} {rest : List Fr} {s : S} {kind : CallKind} {tmps : Array Value} {ds' : List Deferred} {cs : List Frame} {w : World}
    (h : Run1 P B w0 ι hb sf fn nt g ds d none rest s ⟨kind, none⟩ tmps ds' cs w) (ht : TmpRel ι g tmps) {c : Code} {id : Nat} {p : Pat} (hpat : patOf c id = some p) {g' : T Value} {L : List S} (hm : forkLoop P K fn nt g p s = some (g', L))
    {k : List AItem} {k' : List Item} (hk : ItsRel P nt ι sf.K k k') :
    ∃ s' ∈ L, ResPost' P B w0 ι s w (lone (mkF fn ⟨kind, none⟩ tmps ds' (.code (.loop c) :: .inBlock id :: k')) cs w) (.next ⟨⟨fn, nt, g', k, ds, .run, d, none⟩ :: rest, s'⟩) := by
  have hP := patOf_spec hpat
  unfold forkLoop at hm
  simp only [] at hm
  have hclr : ev (clearT (p.tn :: p.tok :: p.te :: (dstsL p.ops ++ dstsC p.rest)) g) (.tmp p.tn) = poi := clearT_mem (by simp)
  have ht0 := clearT_rel (p.tn :: p.tok :: p.te :: (dstsL p.ops ++ dstsC p.rest)) ht
  generalize clearT (p.tn :: p.tok :: p.te :: (dstsL p.ops ++ dstsC p.rest)) g = g0 at hm hclr ht0
  cases hit : ev g0 (.tmp p.it) with
  | pointer a =>
    cases a with
    | none => simp [hit] at hm
    | some a =>
      obtain ⟨r, off, sp⟩ := a
      cases off with
      | succ n => simp [hit] at hm
      | zero =>
        simp only [hit] at hm
        cases hgr : s.h.get r with
        | none => simp [hgr] at hm
        | some obr =>
          cases obr with
          | iter mo c1 =>
            cases mo with
            | none => simp [hgr] at hm
            | some m =>
              simp only [hgr] at hm
              cases hgm : s.h.get m with
              | none => simp [hgm] at hm
              | some ob =>
                simp only [hgm] at hm
                cases hob : entriesOf ob with
                | none => simp [hob] at hm
                | some ec =>
                  obtain ⟨es, cm⟩ := ec
                  simp only [hob] at hm
                  cases hcond : Nat.beq c1 cm && Nat.ble s.lo r && Nat.blt p.tn nt && Nat.blt p.tok nt && Nat.blt p.te nt with
                  | false => rw [hcond] at hm; cases hm
                  | true =>
                    rw [hcond] at hm; simp only [cond_true] at hm
                    simp only [Bool.and_eq_true, Nat.beq_eq, Nat.ble_eq, Nat.blt_eq] at hcond
                    obtain ⟨⟨⟨⟨rfl, hlor⟩, htn⟩, htok⟩, hte⟩ := hcond
                    cases hrs : forks P K fn nt g0 p m (Nat.succ es.length) es (innS s r m) with
                    | none =>
                      have : forks P K fn nt g0 p m (Nat.succ es.length) es ⟨(T.setF (Nat.succ r) s.h r none).set m .hole, s.nx, s.lo⟩ = none := hrs
                      simp [this] at hm
                    | some L1 =>
                      have hrs' : forks P K fn nt g0 p m (Nat.succ es.length) es ⟨(T.setF (Nat.succ r) s.h r none).set m .hole, s.nx, s.lo⟩ = some L1 := hrs
                      simp only [hrs', Option.some.injEq, Prod.mk.injEq] at hm
                      obtain ⟨rfl, rfl⟩ := hm
                      have hv1 := ht0 p.it
                      rw [hit] at hv1
                      obtain ⟨lr, hir, _⟩ := hv1.ptr_inv
                      obtain ⟨obR, r1, r2⟩ := h.srel.obj r lr _ hir hgr
                      cases r2 with
                      | iter hbase him =>
                        rename_i lm
                        obtain ⟨obM, m1, m2⟩ := h.srel.obj m lm _ him hgm
                        obtain ⟨n1, n2, n3, n4, n5⟩ := entries_not hob
                        obtain ⟨srcE, lst, rfl, y1, y2, y4, y5⟩ := entries_rel hob m2
                        · have hrm : r ≠ m := by intro e; rw [e, hgm] at hgr; exact n5 _ _ (Option.some.inj hgr)
                          have hap : lr.blk ≠ lm.blk := by intro e; rw [e, m1] at r1; cases r1
                          have hge : w0.heap.size ≤ lr.blk := by
                            rcases Nat.lt_or_ge lr.blk w0.heap.size with x | x
                            · exact absurd ⟨r, lr, _, hir, rfl, hgr, trivial⟩ (h.ini.own _ x)
                            · exact x
                          obtain ⟨o3, ho3⟩ : ∃ o3, p.all.toList = o3 :: p.ops := by
                            obtain ⟨_, _, _, _, _, o3, _, _, _, _, _, _, _, _, x, _⟩ := hP.ex
                            exact ⟨o3, x⟩
                          have hC : FCtx P w0 fn nt g0 p r m sp lr lm c1 srcE :=
                            ⟨h.func, by rw [ho3]; rfl, by rw [← Array.length_toList, ho3]; simp, htn, htok, hte, hit, hbase, y4, y5, hap, hge⟩
                          obtain ⟨Z, zf, zs, zr⟩ := zip_relF y2
                          have hSi := h.srel.innS (r := r) hgm hob
                          have hno1 := innS_notOwned (r := r) (m := m) h.srel hir rfl hgr (by intro x; simp) (.inl rfl)
                          have hno2 := innS_notOwned (r := r) (m := m) h.srel him rfl hgm n1 (.inr rfl)
                          have hini : Ini w0 ι (innS s r m) w := ⟨h.ini.size, h.ini.same, fun b hb ho => h.ini.own b hb (by
                            obtain ⟨id, l, o, _, _, a1, a2, a3, a4⟩ := innS_owned ho
                            exact ⟨id, l, o, a1, a2, a3, a4⟩), h.ini.out, h.ini.os, h.ini.tape, h.ini.pin⟩
                          obtain ⟨s2, hs2, ι2, w2, w3, tmps', q1, q2, q3, q4, q5, q6, q7, q8⟩ := forks_ok (P := P) (kind := kind) (ds' := ds') (cs := cs) (k' := k') hK hmix hC hP (Nat.succ es.length) Z [] ι (innS s r m) w tmps L1 (by rw [zf]; exact hrs)
                            (by rw [zs]; simpa using y1) zr (by simpa using r1) m1 hno1 hno2 hir hSi hini h.lo ht0 h.size (by rw [innS_get, if_pos rfl])
                          obtain ⟨u1, u2⟩ := restM_rel (hb := s.nx) h.srel hir him hgr hgm hob hlor m1 q3 q4 q7 q8
                          refine ⟨restM m ob s2, List.mem_map_of_mem hs2, ?_⟩
                          have hT1 : TmpRel ι2 g0 (pt tmps' (some p.tn) (.tuple #[.bool false])) := by
                            intro t
                            by_cases e : t = p.tn
                            · subst e; rw [hclr]; exact .poi _
                            · rw [pt_get (by simpa using Ne.symm e)]
                              exact q5 t
                          have hT2 : TmpRel ι2 (g0.set p.tok (.bool false)) (pt (pt tmps' (some p.tn) (.tuple #[.bool false])) (some p.tok) (.bool false)) :=
                            hT1.putD (nt := nt) (by rw [pt_size]; exact q6) (dst := some p.tok) (by simpa [dstOk] using htok) (.bool false)
                          have hFs := (u2.weaken h.hb).trans (Fm.same (hb := hb) q1)
                          exact next_body h (.head (stepR_loop (b := bs fn ⟨kind, none⟩) (a := ⟨tmps, ds'⟩)) q2) (by rw [pt_size, pt_size]; exact q6) (u1.same q1) hFs (.plain hT2 (hk.mono u2.ext))
          | _ => simp [hgr] at hm
  | _ => simp [hit] at hm

theorem forkAt_ok (hK : KnownOk P K w0) (hmix : P.follows .mixedOrders = true) {ι : Inj} {hb : Nat} {sf : Suf} {fr : Fr} {rest : List Fr} {s : S} {top : Frame} {cs : List Frame} {w : World} (h : RSt P B w0 ι hb sf fr rest s top cs w)
    {L : List St} (hf : forkAt P K ⟨fr :: rest, s⟩ = some L) : ∃ st ∈ L, ResPost' P B w0 ι s w (lone top cs w) (.next st) := by
  unfold forkAt at hf
  split at hf
  · rename_i fn nt g c id k ds d cs0 s0 heq
    simp only [St.mk.injEq, List.cons.injEq] at heq
    obtain ⟨⟨rfl, rfl⟩, rfl⟩ := heq
    cases hp : patOf c id with
    | none => simp [hp] at hf
    | some p =>
      simp only [hp] at hf
      cases hm : forkLoop P K fn nt g p s with
      | none => simp [hm] at hf
      | some q =>
        obtain ⟨g', L1⟩ := q
        simp only [hm, Option.some.injEq] at hf; subst hf
        obtain ⟨hcal, hT, hS, hhb, hlo, hini⟩ := h
        have hrn := hT.rnd.isNone
        have hrk := hT.rk
        simp only at hrk
        have hmode : top.mode = .run := by
          have := hT.mode
          generalize top.mode = mm at this
          cases this; rfl
        rw [frame_eta top hmode, hrn]
        have hR : Run1 P B w0 ι hb sf fn nt g ds d none rest s ⟨top.kind, none⟩ top.tmps top.defers cs w := ⟨hcal, hT.func, .none, hrk, hT.kind, hT.size, hT.defers, hS, hhb, hlo, hini⟩
        have hfn := hT.fn
        have hbody := hT.body rfl
        simp only at hfn hbody
        rw [hfn]
        generalize top.kind = kind at hR ⊢
        generalize top.tmps = tmps at hR hbody ⊢
        generalize top.defers = ds' at hR ⊢
        generalize top.todo = todo' at hbody ⊢
        cases hbody with
        | plain ht hits =>
          cases hits with
          | cons h1 h2 =>
            cases h1
            cases h2 with
            | cons h3 h4 =>
              cases h3
              obtain ⟨s', hs', hr⟩ := forkLoop_ok hK hmix hR ht hp hm h4
              exact ⟨_, List.mem_map_of_mem hs', hr⟩
  · cases hf

end
end Go.AM
/- Loops over a number, whose rounds put one more behind a slice. -/
namespace Go.AM
variable {P : Program} {K : Known} {w0 : Start} {B : Base}

structure PatIOf (c : Code) (id : Nat) (p : PatI) : Prop where
  ex : ∃ i1 i5 ops1 ops5 o1 o2 o3 yt yt2, c = .seq (.region i1 ops1 false) (.seq (.cond (.tmp p.tb) .skip (.exit id)) (.seq (.block p.id2 p.body) p.r5)) ∧ p.r5 = .region i5 ops5 false ∧
    ops1 = #[o1] ∧ o1.dst = some p.tb ∧ o1.op = .binOp .lss p.ti (.tmp p.ci) (.tmp p.cn) yt ∧ o1.guard = none ∧
    ops5 = #[o2, o3] ∧ o2.dst = some p.tx ∧ o2.op = .binOp .add p.ti (.tmp p.ci) (.const (.int .i64 1)) yt2 ∧ o2.guard = none ∧ o3.dst = some p.ci ∧ o3.op = .move (.tmp p.tx) ∧ o3.guard = none
  n1 : p.tb ≠ p.ci
  n2 : p.tb ≠ p.cn
  n3 : p.tx ≠ p.ci
  n4 : p.tx ≠ p.cn
  n5 : p.ci ≠ p.cn

theorem patI_spec {c : Code} {id : Nat} {p : PatI} (h : patI c id = some p) : PatIOf c id p := by
  unfold patI at h
  split at h
  · rename_i i1 ops1 tb id' id2 body i5 ops5
    split at h
    · rename_i tb' ti ci cn yt a1 a2 a3 tx ti' ci' yt2 b1 b2 b3 ci2 tx' c1 c2 c3 e1 e5
      cases hk : Nat.beq id id' && Nat.beq tb tb' && Nat.beq ci ci' && Nat.beq ci ci2 && Nat.beq tx tx' && Nat.beq ti ti' && !Nat.beq tb ci && !Nat.beq tb cn && !Nat.beq tx ci && !Nat.beq tx cn && !Nat.beq ci cn && notIn ci (dstsC body) && notIn cn (dstsC body) with
      | false => rw [hk] at h; cases h
      | true =>
        rw [hk] at h; simp only [cond_true, Option.some.injEq] at h; subst h
        simp only [Bool.and_eq_true, Nat.beq_eq, Bool.not_eq_true'] at hk
        obtain ⟨⟨⟨⟨⟨⟨⟨⟨⟨⟨⟨⟨rfl, rfl⟩, rfl⟩, rfl⟩, rfl⟩, rfl⟩, n1⟩, n2⟩, n3⟩, n4⟩, n5⟩, _⟩, _⟩ := hk
        have ne : ∀ {a b : Nat}, Nat.beq a b = false → a ≠ b := fun x e => by rw [e, Nat.beq_refl] at x; cases x
        refine ⟨⟨i1, i5, ops1, ops5, ⟨some tb, .binOp .lss ti (.tmp ci) (.tmp cn) yt, a1, a2, a3, none⟩, ⟨some tx, .binOp .add ti (.tmp ci) (.const (.int .i64 1)) yt2, b1, b2, b3, none⟩, ⟨some ci, .move (.tmp tx), c1, c2, c3, none⟩, yt, yt2, rfl, rfl, ?_, rfl, rfl, rfl, ?_, rfl, rfl, rfl, rfl, rfl, rfl⟩, ne n1, ne n2, ne n3, ne n4, ne n5⟩
        · rw [← Array.toArray_toList (xs := ops1), e1]
        · rw [← Array.toArray_toList (xs := ops5), e5]
    · cases h
  · cases h

theorem int_exec {op : BinOp} {t yt : TypeId} {x y : Operand} {o : Oper} (ho : o.op = .binOp op t x y yt) {ρ : Operand → Value} {a b : Int} {v : Value} (hx : ρ x = .int .i64 a) (hy : ρ y = .int .i64 b) (h : arith op .i64 a b = some v) (hs : isShift op = false) (w : World) :
    (execOp ρ o).run P w = .ok (.value v) w := by
  simp only [execOp, ho, hx, hy, eqGuard_at_int]
  simp [arith_run h hs t w]

section
variable {fn nt : Nat} {kind : KR} {tmps : Array Value} {ds' : List Deferred} {cs : List Frame} {w : World} {c : Code} {id : Nat} {p : PatI}

theorem int_begin (hp : PatIOf c id p) (hsz : tmps.size = nt) (htb : p.tb < nt) {i n : Int} (hi : rho tmps (.tmp p.ci) = .int .i64 i) (hn : rho tmps (.tmp p.cn) = .int .i64 n) (hlt : i < n) {K0 : List Item} :
    Steps P (lone (mkF fn kind tmps ds' (.inLoop c :: K0)) cs w)
      (lone (mkF fn kind (pt tmps (some p.tb) (.bool true)) ds' (.code p.body :: .inBlock p.id2 :: .code p.r5 :: .inLoop c :: K0)) cs w) := by
  obtain ⟨⟨i1, i5, ops1, ops5, o1, o2, o3, yt, yt2, hc, _, rfl, d1, q1, g1, _⟩, _⟩ := hp
  refine .head (stepR_inLoop (b := bs fn kind) (a := ⟨tmps, ds'⟩)) ?_
  generalize hcl : (Item.inLoop c :: K0) = Kl
  rw [hc]
  refine .head (stepR_seq (b := bs fn kind) (a := ⟨tmps, ds'⟩)) (.head (stepR_region (b := bs fn kind) (a := ⟨tmps, ds'⟩)) ?_)
  have hr2 : List.range (#[o1] : Array Oper).size = [0] := rfl
  rw [hr2]
  have hs1 := st_value (P := P) (fn := fn) (kind := kind) (tmps := tmps) (ds := ds') (all := #[o1]) (i := 0) (L := []) (k := .code (.seq (.cond (.tmp p.tb) .skip (.exit id)) (.seq (.block p.id2 p.body) p.r5)) :: Kl) (cs := cs) (o := o1) rfl (wanted_none g1)
    (.inl (int_exec (w := w) q1 hi hn (v := .bool (decide (i < n))) rfl rfl))
  refine .head hs1 ?_
  have hd : decide (i < n) = true := by simpa using hlt
  rw [d1, hd]
  refine .head (stepR_region_end (b := bs fn kind) (a := ⟨_, ds'⟩)) (.head (stepR_seq (b := bs fn kind) (a := ⟨_, ds'⟩)) ?_)
  have hcond : (Act.mk (pt tmps (some p.tb) (.bool true)) ds').eval (.tmp p.tb) = .bool true := by
    rw [rho_eq]; exact rho_pt_self (by rw [hsz]; exact htb)
  exact .head (stepR_cond (b := bs fn kind) hcond) (.head (stepR_skip (b := bs fn kind) (a := ⟨_, ds'⟩)) (.head (stepR_seq (b := bs fn kind) (a := ⟨_, ds'⟩)) (.one (stepR_block (b := bs fn kind) (a := ⟨_, ds'⟩)))))

theorem int_mid (hp : PatIOf c id p) (hsz : tmps.size = nt) (htx : p.tx < nt) {i : Int} (hi : rho tmps (.tmp p.ci) = .int .i64 i) (h0 : 0 ≤ i) (h1 : i ≤ 1000000) {K0 : List Item} :
    Steps P (lone (mkF fn kind tmps ds' (.inBlock p.id2 :: .code p.r5 :: K0)) cs w)
      (lone (mkF fn kind (pt (pt tmps (some p.tx) (.int .i64 (i + 1))) (some p.ci) (.int .i64 (i + 1))) ds' K0) cs w) := by
  obtain ⟨⟨i1, i5, ops1, ops5, o1, o2, o3, yt, yt2, hc, h5, _, _, _, _, rfl, d2, q2, g2, d3, q3, g3⟩, _⟩ := hp
  refine .head (stepR_inBlock (b := bs fn kind) (a := ⟨tmps, ds'⟩)) ?_
  rw [h5]
  refine .head (stepR_region (b := bs fn kind) (a := ⟨tmps, ds'⟩)) ?_
  have hr2 : List.range (#[o2, o3] : Array Oper).size = [0, 1] := rfl
  rw [hr2]
  have hw : IntKind.i64.wrap (i + 1) = i + 1 := by
    have := wrapF_small (k := .i64) (.inl rfl) (n := i + 1) (by omega) (by omega)
    rw [wrapF_eq] at this; exact this
  have hs1 := st_value (P := P) (fn := fn) (kind := kind) (tmps := tmps) (ds := ds') (all := #[o2, o3]) (i := 0) (L := [1]) (k := K0) (cs := cs) (o := o2) rfl (wanted_none g2)
    (.inl (int_exec (w := w) q2 hi (show rho tmps (.const (.int .i64 1)) = .int .i64 1 from rfl) (v := .int .i64 (i + 1)) (by simp only [arith, wrapF_eq, hw]) rfl))
  refine .head hs1 ?_
  rw [d2]
  have hs2 := st_value (P := P) (fn := fn) (kind := kind) (tmps := pt tmps (some p.tx) (.int .i64 (i + 1))) (ds := ds') (all := #[o2, o3]) (i := 1) (L := []) (k := K0) (cs := cs) (o := o3) (w := w) (w' := w) (v := .int .i64 (i + 1)) rfl (wanted_none g3)
    (.inl (by
      have : rho (pt tmps (some p.tx) (.int .i64 (i + 1))) (.tmp p.tx) = .int .i64 (i + 1) := rho_pt_self (by rw [hsz]; exact htx)
      simp [execOp, q3, this]))
  refine .head hs2 ?_
  rw [d3]
  exact .one (stepR_region_end (b := bs fn kind) (a := ⟨_, ds'⟩))

theorem int_over (hp : PatIOf c id p) (hsz : tmps.size = nt) (htb : p.tb < nt) {i n : Int} (hi : rho tmps (.tmp p.ci) = .int .i64 i) (hn : rho tmps (.tmp p.cn) = .int .i64 n) (hlt : ¬ i < n) {k' : List Item} :
    Steps P (lone (mkF fn kind tmps ds' (.inLoop c :: .inBlock id :: k')) cs w)
      (lone (mkF fn kind (pt tmps (some p.tb) (.bool false)) ds' k') cs w) := by
  obtain ⟨⟨i1, i5, ops1, ops5, o1, o2, o3, yt, yt2, hc, _, rfl, d1, q1, g1, _⟩, _⟩ := hp
  refine .head (stepR_inLoop (b := bs fn kind) (a := ⟨tmps, ds'⟩)) ?_
  generalize hcl : (Item.inLoop c :: Item.inBlock id :: k') = Kl
  rw [hc]
  refine .head (stepR_seq (b := bs fn kind) (a := ⟨tmps, ds'⟩)) (.head (stepR_region (b := bs fn kind) (a := ⟨tmps, ds'⟩)) ?_)
  have hr2 : List.range (#[o1] : Array Oper).size = [0] := rfl
  rw [hr2]
  have hs1 := st_value (P := P) (fn := fn) (kind := kind) (tmps := tmps) (ds := ds') (all := #[o1]) (i := 0) (L := []) (k := .code (.seq (.cond (.tmp p.tb) .skip (.exit id)) (.seq (.block p.id2 p.body) p.r5)) :: Kl) (cs := cs) (o := o1) rfl (wanted_none g1)
    (.inl (int_exec (w := w) q1 hi hn (v := .bool (decide (i < n))) rfl rfl))
  refine .head hs1 ?_
  have hd : decide (i < n) = false := by simpa using hlt
  rw [d1, hd]
  refine .head (stepR_region_end (b := bs fn kind) (a := ⟨_, ds'⟩)) (.head (stepR_seq (b := bs fn kind) (a := ⟨_, ds'⟩)) ?_)
  have hcond : (Act.mk (pt tmps (some p.tb) (.bool false)) ds').eval (.tmp p.tb) = .bool false := by
    rw [rho_eq]; exact rho_pt_self (by rw [hsz]; exact htb)
  refine .head (stepR_cond (b := bs fn kind) hcond) (.one (stepR_exit (b := bs fn kind) (a := ⟨_, ds'⟩) ?_))
  rw [← hcl]
  simp [exitTo]

end
end Go.AM
/- Loops over a number: the state at a round's head. -/
namespace Go.AM
noncomputable section
variable {P : Program} {K : Known} {w0 : Start} {B : Base}

theorem oddZ_cases (x : Nat) : (oddZ x = x + 1 ∨ oddZ x = x + 2) ∧ oddZ x % 2 = 1 := by
  have e : oddZ x = (x + 1) + x % 2 := rfl
  rw [e]; omega

theorem symMk_spec {id code off : Nat} (hc : code < 16) (ho : off < 1048576) : symId (symMk id code off) = id ∧ symCode (symMk id code off) = code ∧ symOff (symMk id code off) = off := by
  have e1 : ∀ a b : Nat, Nat.div a b = a / b := fun _ _ => rfl
  have e2 : ∀ a b : Nat, Nat.mod a b = a % b := fun _ _ => rfl
  have e : symMk id code off = id * 16777216 + (code * 1048576 + off) := rfl
  rw [e]
  simp only [symCode, symOff, symId, e1, e2]
  refine ⟨by omega, by omega, by omega⟩

theorem symB_odd {x : Nat} : symB (oddZ x) = 90000 := by
  have h := (oddZ_cases x).2
  unfold symB
  have : Nat.mod (oddZ x) 2 = 1 := h
  rw [this]; rfl

section
variable {ι : Inj} {s : S} {w : World} {vb off m b mb i' c0 : Nat} {c cb : T Value} {e eb : TypeId} {pb : Option Nat} {lv lb : Loc}

/-- what stands fast -/
structure HC (P : Program) (ι : Inj) (s : S) (w : World) (vb off m b mb i' c0 : Nat) (c cb : T Value) (e eb : TypeId) (pb : Option Nat) (lv lb : Loc) : Prop where
  srel : SRel P ι s w
  lo : s.lo ≤ s.nx
  iv : ι vb = some lv
  gv : s.h.get vb = some (.blk ⟨c, m, e, none, 0⟩)
  cell : c.get off = some (.slice (some ⟨b, 0, some 1⟩) i' c0)
  offm : off < m
  ib : ι b = some lb
  gb : s.h.get b = some (.blk ⟨cb, mb, eb, pb, 0⟩)
  bv : b ≠ vb
  pv : pb ≠ some vb
  lov : s.lo ≤ vb
  lob : s.lo ≤ b
  lop : ∀ p, pb = some p → s.lo ≤ p
  small : s.nx < 16000000

theorem HC.vlt (h : HC P ι s w vb off m b mb i' c0 c cb e eb pb lv lb) : vb < s.nx := by
  rcases Nat.lt_or_ge vb s.nx with x | x
  · exact x
  · have := h.srel.fresh _ x; rw [h.iv] at this; cases this
theorem HC.blt (h : HC P ι s w vb off m b mb i' c0 c cb e eb pb lv lb) : b < s.nx := by
  rcases Nat.lt_or_ge b s.nx with x | x
  · exact x
  · have := h.srel.fresh _ x; rw [h.ib] at this; cases this
theorem HC.par (h : HC P ι s w vb off m b mb i' c0 c cb e eb pb lv lb) {p : Nat} (hp : pb = some p) : ι p ≠ none ∧ p < s.nx := by
  have h1 := (h.srel.par b _ p h.gb (by rw [h.ib]; simp) (by simp [Dead]) (by simp [Par, hp])).1
  refine ⟨h1, ?_⟩
  rcases Nat.lt_or_ge p s.nx with x | x
  · exact x
  · exact absurd (h.srel.fresh _ x) h1

theorem drop_get (s : S) (i id : Nat) : (s.drop i).h.get id = if id = i then none else s.h.get id := by
  cases s; simp only [S.drop, T.get_setF _ _ _ _ _ (Nat.lt_succ_self i)]
theorem dropO_get (s : S) (q : Option Nat) (id : Nat) : (dropO s q).h.get id = if q = some id then none else s.h.get id := by
  cases q with
  | none => simp [dropO]
  | some p =>
    simp only [dropO, drop_get]
    by_cases e : id = p
    · subst e; simp
    · rw [if_neg e, if_neg (by intro x; cases x; exact e rfl)]

theorem headS_get (s : S) (vb off : Nat) (c : T Value) (m : Nat) (e : TypeId) (b : Nat) (pb : Option Nat) (eb : TypeId) (id : Nat) :
    (headS s vb off c m e b pb eb).h.get id = if id = s.nx then some (.row eb) else if id = vb then some (.blk ⟨c.set off (.chan (some (symRowMk s.nx (oddZ s.nx) 0))), m, e, none, 0⟩) else
      if pb = some id then none else if id = s.nx + 2 then none else if id = s.nx + 1 then none else if id = b then none else s.h.get id := by
  simp only [headS, T.get_set, dropO_get, drop_get, Nat.succ_eq_add_one]
theorem headS_nx (s : S) (vb off : Nat) (c : T Value) (m : Nat) (e : TypeId) (b : Nat) (pb : Option Nat) (eb : TypeId) : (headS s vb off c m e b pb eb).nx = s.nx + 3 := rfl
theorem headS_lo (s : S) (vb off : Nat) (c : T Value) (m : Nat) (e : TypeId) (b : Nat) (pb : Option Nat) (eb : TypeId) : (headS s vb off c m e b pb eb).lo = vb := rfl

/-- what is found there -/
theorem headS_cases (s : S) (vb off : Nat) (c : T Value) (m : Nat) (e : TypeId) (b : Nat) (pb : Option Nat) (eb : TypeId) (id : Nat) (o : AObj) (h : (headS s vb off c m e b pb eb).h.get id = some o) :
    (id = s.nx ∧ o = .row eb) ∨ (id ≠ s.nx ∧ id = vb ∧ o = .blk ⟨c.set off (.chan (some (symRowMk s.nx (oddZ s.nx) 0))), m, e, none, 0⟩) ∨
    (id ≠ s.nx ∧ id ≠ vb ∧ pb ≠ some id ∧ id ≠ s.nx + 2 ∧ id ≠ s.nx + 1 ∧ id ≠ b ∧ s.h.get id = some o) := by
  rw [headS_get] at h
  by_cases e1 : id = s.nx
  · rw [if_pos e1] at h; cases h; exact .inl ⟨e1, rfl⟩
  · rw [if_neg e1] at h
    by_cases e2 : id = vb
    · rw [if_pos e2] at h; cases h; exact .inr (.inl ⟨e1, e2, rfl⟩)
    · rw [if_neg e2] at h
      by_cases e3 : pb = some id
      · rw [if_pos e3] at h; cases h
      · rw [if_neg e3] at h
        by_cases e4 : id = s.nx + 2
        · rw [if_pos e4] at h; cases h
        · rw [if_neg e4] at h
          by_cases e5 : id = s.nx + 1
          · rw [if_pos e5] at h; cases h
          · rw [if_neg e5] at h
            by_cases e6 : id = b
            · rw [if_pos e6] at h; cases h
            · rw [if_neg e6] at h; exact .inr (.inr ⟨e1, e2, e3, e4, e5, e6, h⟩)

/-- the places, with the row's and the number's -/
def headI (ι : Inj) (x : Nat) (lX lZ : Loc) : Inj := fun id => if id = x then some lX else if id = oddZ x then some lZ else ι id
theorem headI_x (ι : Inj) (x : Nat) (lX lZ : Loc) : headI ι x lX lZ x = some lX := by simp [headI]
theorem headI_z (ι : Inj) (x : Nat) (lX lZ : Loc) : headI ι x lX lZ (oddZ x) = some lZ := by
  have := (oddZ_cases x).1
  have hne : oddZ x ≠ x := by omega
  simp [headI, hne]
theorem headI_lt (ι : Inj) (x : Nat) (lX lZ : Loc) {id : Nat} (h : id < x) : headI ι x lX lZ id = ι id := by
  have := (oddZ_cases x).1
  unfold headI
  rw [if_neg (by omega), if_neg (by omega)]
theorem headI_cases {ι : Inj} {x : Nat} {lX lZ : Loc} {id : Nat} {l : Loc} (hf : ∀ id, x ≤ id → ι id = none) (h : headI ι x lX lZ id = some l) : (id = x ∧ l = lX) ∨ (id = oddZ x ∧ l = lZ) ∨ (id < x ∧ ι id = some l) := by
  unfold headI at h
  by_cases e1 : id = x
  · rw [if_pos e1] at h; cases h; exact .inl ⟨e1, rfl⟩
  · rw [if_neg e1] at h
    by_cases e2 : id = oddZ x
    · rw [if_pos e2] at h; cases h; exact .inr (.inl ⟨e2, rfl⟩)
    · rw [if_neg e2] at h
      refine .inr (.inr ⟨?_, h⟩)
      rcases Nat.lt_or_ge id x with y | y
      · exact y
      · rw [hf id y] at h; cases h
theorem headI_ext {ι : Inj} {x : Nat} {lX lZ : Loc} (hf : ∀ id, x ≤ id → ι id = none) : Ext ι (headI ι x lX lZ) := by
  intro id l hl
  rcases Nat.lt_or_ge id x with y | y
  · rw [headI_lt _ _ _ _ y]; exact hl
  · rw [hf id y] at hl; cases hl

/-- the invariant: where the row lies now, and how many rounds there were -/
structure HI (P : Program) (ι : Inj) (s : S) (w : World) (vb off m b : Nat) (c : T Value) (e eb : TypeId) (pb : Option Nat) (lv : Loc) (lX : Loc) (j : Nat) (w1 : World) : Prop where
  size : w.heap.size ≤ w1.heap.size
  os : w1.os = w.os
  out : w1.output = w.output
  tape : w1.tape = w.tape
  heap : ∀ q, q < w.heap.size → ¬ Owned ι s q → w1.heap[q]? = w.heap[q]?
  newX : w.heap.size ≤ lX.blk ∨ OwnedL ι s lX.blk
  ltX : lX.blk < w1.heap.size
  row : ∃ o', w1.heap[lX.blk]? = some o' ∧ ORel P ι lX (.row eb) o'
  old : ∀ id l o, ι id = some l → id ≠ vb → (headS s vb off c m e b pb eb).h.get id = some o → ∃ o', w1.heap[l.blk]? = some o' ∧ ORel P ι l o o'
  vbx : ∃ cells fr nn cc, w1.heap[lv.blk]? = some (.cells cells e fr) ∧ cells.size = lv.top ∧ lv.base + m ≤ lv.top ∧ FrOk P e lv.top fr ∧
    (∀ q v, c.get q = some v → q < m → q ≠ off → ∃ v', cells[lv.base + q]? = some v' ∧ VRel ι v v') ∧
    cells[lv.base + off]? = some (.slice (some ⟨lX.blk, lX.base, none⟩) nn cc) ∧ nn ≤ cc ∧ lX.base + cc ≤ lX.top ∧ nn ≤ j
  alone : ∀ id l o, ι id = some l → l.blk = lX.blk → (headS s vb off c m e b pb eb).h.get id = some o → Dead o

variable {lX : Loc} {j : Nat} {w1 : World}

abbrev numL (lv : Loc) (j : Nat) : Loc := ⟨lv.blk, j, 0⟩

theorem HI.srel (hC : HC P ι s w vb off m b mb i' c0 c cb e eb pb lv lb) (h : HI P ι s w vb off m b c e eb pb lv lX j w1) (hj : j ≤ 1000000) :
    SRel P (headI ι s.nx lX (numL lv j)) (headS s vb off c m e b pb eb) w1 := by
  have hf := hC.srel.fresh
  have hx := headI_ext (lX := lX) (lZ := numL lv j) hf
  have hvlt := hC.vlt
  have hz := (oddZ_cases s.nx).1
  have noZ : ∀ o, (headS s vb off c m e b pb eb).h.get (oddZ s.nx) ≠ some o := by
    intro o ho
    rcases headS_cases _ _ _ _ _ _ _ _ _ _ _ ho with ⟨a, _⟩ | ⟨_, a, _⟩ | ⟨_, _, _, a, a', _⟩ <;> omega
  have oldpar : ∀ id l o p, ι id = some l → (headS s vb off c m e b pb eb).h.get id = some o → ¬ Dead o → Par o p → ∃ o0, s.h.get id = some o0 ∧ o0 = o := by
    intro id l o p hi hg hd hp
    have : id < s.nx := by
      rcases Nat.lt_or_ge id s.nx with y | y
      · exact y
      · rw [hf id y] at hi; cases hi
    rcases headS_cases _ _ _ _ _ _ _ _ _ _ _ hg with ⟨a, _⟩ | ⟨_, _, rfl⟩ | ⟨_, _, _, _, _, _, a⟩
    · omega
    · simp [Par] at hp
    · exact ⟨o, a, rfl⟩
  refine ⟨?_, ?_, ?_, ?_, ?_⟩
  · intro id l o hi hg
    rcases headI_cases hf hi with ⟨rfl, rfl⟩ | ⟨rfl, rfl⟩ | ⟨hlt, hi0⟩
    · have : (headS s vb off c m e b pb eb).h.get s.nx = some (.row eb) := by rw [headS_get, if_pos rfl]
      rw [this] at hg; cases hg
      obtain ⟨o', h1, h2⟩ := h.row
      exact ⟨o', h1, h2.mono hx⟩
    · exact absurd hg (noZ o)
    · by_cases hv : id = vb
      · subst hv
        rw [hC.iv] at hi0; cases hi0
        have : (headS s id off c m e b pb eb).h.get id = some (.blk ⟨c.set off (.chan (some (symRowMk s.nx (oddZ s.nx) 0))), m, e, none, 0⟩) := by
          rw [headS_get, if_neg (by omega), if_pos rfl]
        rw [this] at hg; cases hg
        obtain ⟨cells, fr, nn, cc, h1, h2, h3, h4, h5, h6, h7, h8, h9⟩ := h.vbx
        refine ⟨_, h1, .blk h2 h3 (fun q v hq hqm => ?_) h4⟩
        rw [T.get_set] at hq
        by_cases eq : q = off
        · rw [if_pos eq] at hq; cases hq
          subst eq
          refine ⟨_, h6, ?_⟩
          have hsm := hC.small
          obtain ⟨s1, s2, s3, s4⟩ := symRowMk_spec (row := s.nx) (len := oddZ s.nx) (off := 0) (by omega) (by omega)
          exact .row s1 (by rw [s2]; exact headI_x _ _ _ _) (by rw [s3]; exact headI_z _ _ _ _) h7 h8 (by rw [s4]; simpa using h9) hj
        · rw [if_neg eq] at hq
          obtain ⟨v', x1, x2⟩ := h5 q v hq hqm eq
          exact ⟨v', x1, x2.mono hx⟩
      · obtain ⟨o', h1, h2⟩ := h.old id l o hi0 hv hg
        exact ⟨o', h1, h2.mono hx⟩
  · intro id hi
    rw [headS_nx] at hi
    cases hh : headI ι s.nx lX (numL lv j) id with
    | none => rfl
    | some l => rcases headI_cases hf hh with ⟨a, _⟩ | ⟨a, _⟩ | ⟨a, _⟩ <;> omega
  · intro id l hi
    have hv := hC.srel.bound _ _ hC.iv
    rcases headI_cases hf hi with ⟨_, rfl⟩ | ⟨_, rfl⟩ | ⟨_, hi0⟩
    · exact h.ltX
    · exact Nat.lt_of_lt_of_le hv h.size
    · exact Nat.lt_of_lt_of_le (hC.srel.bound _ _ hi0) h.size
  · intro id1 id2 l1 l2 o1 o2 hne i1 i2 hbl g1 g2
    rcases headI_cases hf i1 with ⟨rfl, rfl⟩ | ⟨rfl, rfl⟩ | ⟨lt1, k1⟩
    · rcases headI_cases hf i2 with ⟨rfl, rfl⟩ | ⟨rfl, rfl⟩ | ⟨lt2, k2⟩
      · exact absurd rfl hne
      · exact absurd g2 (noZ _)
      · exact .inr (.inl (h.alone id2 l2 o2 k2 hbl.symm g2))
    · exact absurd g1 (noZ _)
    · rcases headI_cases hf i2 with ⟨rfl, rfl⟩ | ⟨rfl, rfl⟩ | ⟨lt2, k2⟩
      · exact .inl (h.alone id1 l1 o1 k1 hbl g1)
      · exact absurd g2 (noZ _)
      · -- both are old
        have key : ∀ id o, id < s.nx → (headS s vb off c m e b pb eb).h.get id = some o → ∃ o0, s.h.get id = some o0 ∧ (Dead o0 → Dead o) ∧ (∀ p, Par o0 p → Par o p) := by
          intro id o hlt hg
          rcases headS_cases _ _ _ _ _ _ _ _ _ _ _ hg with ⟨a, _⟩ | ⟨_, rfl, rfl⟩ | ⟨_, _, _, _, _, _, a⟩
          · omega
          · exact ⟨_, hC.gv, fun x => x, fun p x => by simp [Par] at x⟩
          · exact ⟨o, a, fun x => x, fun _ x => x⟩
        obtain ⟨p1, a1, a2, a3⟩ := key id1 o1 lt1 g1
        obtain ⟨p2, b1, b2, b3⟩ := key id2 o2 lt2 g2
        rcases hC.srel.alias id1 id2 l1 l2 p1 p2 hne k1 k2 hbl a1 b1 with x | x | x | x
        · exact .inl (a2 x)
        · exact .inr (.inl (b2 x))
        · exact .inr (.inr (.inl (a3 _ x)))
        · exact .inr (.inr (.inr (b3 _ x)))
  · intro id o p hg hi hd hp
    obtain ⟨l, hl⟩ := Option.ne_none_iff_exists'.1 hi
    rcases headI_cases hf hl with ⟨rfl, rfl⟩ | ⟨rfl, rfl⟩ | ⟨lt1, i1⟩
    · rw [headS_get, if_pos rfl] at hg; cases hg; simp [Par] at hp
    · exact absurd hg (noZ _)
    · obtain ⟨_, g0, rfl⟩ := oldpar id l o p i1 hg hd hp
      obtain ⟨y1, y2⟩ := hC.srel.par id _ p g0 (by rw [i1]; simp) hd hp
      obtain ⟨lp, hlp⟩ := Option.ne_none_iff_exists'.1 y1
      have hplt : p < s.nx := by
        rcases Nat.lt_or_ge p s.nx with y | y
        · exact y
        · rw [hf p y] at hlp; cases hlp
      refine ⟨by rw [headI_lt _ _ _ _ hplt]; exact y1, fun o' ho' => ?_⟩
      rcases headS_cases _ _ _ _ _ _ _ _ _ _ _ ho' with ⟨a, _⟩ | ⟨_, rfl, _⟩ | ⟨_, _, _, _, _, _, a⟩
      · omega
      · obtain ⟨bb, e1, e2⟩ := y2 _ hC.gv
        cases e1; exact absurd rfl e2
      · exact y2 _ a

/-- whose blocks there are -/
theorem HI.owns (hC : HC P ι s w vb off m b mb i' c0 c cb e eb pb lv lb) {lZ : Loc} {id : Nat} {l : Loc} {o : AObj} (hi : headI ι s.nx lX lZ id = some l) (hg : (headS s vb off c m e b pb eb).h.get id = some o) (hn : NotHole o) :
    (id = s.nx ∧ l = lX) ∨ (id < s.nx ∧ ι id = some l ∧ ∃ o0, s.h.get id = some o0 ∧ NotHole o0) := by
  have hf := hC.srel.fresh
  have hz := (oddZ_cases s.nx).1
  rcases headI_cases hf hi with ⟨rfl, rfl⟩ | ⟨rfl, rfl⟩ | ⟨hlt, hi0⟩
  · exact .inl ⟨rfl, rfl⟩
  · have hvlt := hC.vlt
    rcases headS_cases _ _ _ _ _ _ _ _ _ _ _ hg with ⟨a, _⟩ | ⟨_, a, _⟩ | ⟨_, _, _, a, a', _⟩ <;> omega
  · refine .inr ⟨hlt, hi0, ?_⟩
    rcases headS_cases _ _ _ _ _ _ _ _ _ _ _ hg with ⟨a, _⟩ | ⟨_, rfl, rfl⟩ | ⟨_, _, _, _, _, _, a⟩
    · omega
    · exact ⟨_, hC.gv, by simp [NotHole]⟩
    · exact ⟨o, a, hn⟩

theorem OwnedL.owned {ι : Inj} {s : S} {q : Nat} (h : OwnedL ι s q) : Owned ι s q := by
  obtain ⟨id, l, o, _, a⟩ := h; exact ⟨id, l, o, a⟩

theorem HI.fm (hC : HC P ι s w vb off m b mb i' c0 c cb e eb pb lv lb) (h : HI P ι s w vb off m b c e eb pb lv lX j w1) :
    Fm s.nx ι s w (headI ι s.nx lX (numL lv j)) ⟨(headS s vb off c m e b pb eb).h, s.nx + 3, s.lo⟩ w1 := by
  have hf := hC.srel.fresh
  have hvlt := hC.vlt
  have hblt := hC.blt
  have hlo := hC.lo
  have hlov := hC.lov
  have hlob := hC.lob
  have same : ∀ id, id < s.nx → id ≠ vb → id ≠ b → pb ≠ some id → (headS s vb off c m e b pb eb).h.get id = s.h.get id := by
    intro id h1 h2 h3 h4
    rw [headS_get, if_neg (by omega), if_neg h2, if_neg h4, if_neg (by omega), if_neg (by omega), if_neg h3]
  have hvO : OwnedL ι s lv.blk := ⟨vb, lv, _, hlov, hC.iv, rfl, hC.gv, by simp [NotHole]⟩
  refine ⟨headI_ext hf, ?_, ?_, h.heap, ?_, ?_, ?_, ?_, rfl, by simp, h.size, h.os, h.out, h.tape⟩
  · intro id hlt hn
    refine ⟨by rw [headI_lt _ _ _ _ hlt]; exact hn, same id hlt (fun x => ?_) (fun x => ?_) (fun x => (hC.par x).1 hn)⟩
    · rw [x, hC.iv] at hn; cases hn
    · rw [x, hC.ib] at hn; cases hn
  · intro id l hn hs
    rcases headI_cases hf hs with ⟨_, rfl⟩ | ⟨_, rfl⟩ | ⟨_, x⟩
    · exact h.newX
    · exact .inr hvO
    · rw [x] at hn; cases hn
  · rintro q hq ⟨id, l, o, a1, rfl, a3, a4⟩
    rcases HI.owns hC a1 a3 a4 with ⟨_, rfl⟩ | ⟨_, x, o0, y, z⟩
    · rcases h.newX with x | x
      · omega
      · exact x.owned
    · exact ⟨id, l, o0, x, rfl, y, z⟩
  · rintro q hq ⟨id, l, o, a0, a1, rfl, a3, a4⟩
    rcases HI.owns hC a1 a3 a4 with ⟨_, rfl⟩ | ⟨_, x, o0, y, z⟩
    · rcases h.newX with x | x
      · omega
      · exact x
    · exact ⟨id, l, o0, a0, x, rfl, y, z⟩
  · intro id hlt hn
    have e1 : id ≠ vb := fun x => by rw [x, hC.gv] at hn; cases hn
    show (headS s vb off c m e b pb eb).h.get id = none
    rw [headS_get, if_neg (by omega), if_neg e1, hn]
    simp
  · intro id hlt
    exact same id (by omega) (by omega) (by omega) (fun x => by have := hC.lop _ x; omega)

theorem HI.ini (hC : HC P ι s w vb off m b mb i' c0 c cb e eb pb lv lb) (h : HI P ι s w vb off m b c e eb pb lv lX j w1) (hini : Ini w0 ι s w) :
    Ini w0 (headI ι s.nx lX (numL lv j)) (headS s vb off c m e b pb eb) w1 := by
  have hsz := hini.size
  have hsz1 := h.size
  refine ⟨by omega, fun q hq => by rw [h.heap q (by omega) (hini.own q hq), hini.same q hq], ?_, by rw [h.out, hini.out], by rw [h.os, hini.os], by rw [h.tape, hini.tape], fun i v hp => let ⟨l, a, b⟩ := hini.pin i v hp; ⟨l, headI_ext hC.srel.fresh _ _ a, b⟩⟩
  rintro q hq ⟨id, l, o, a1, rfl, a3, a4⟩
  refine hini.own _ hq ?_
  rcases HI.owns hC a1 a3 a4 with ⟨_, rfl⟩ | ⟨_, x, o0, y, z⟩
  · rcases h.newX with x | x
    · omega
    · exact x.owned
  · exact ⟨id, l, o0, x, rfl, y, z⟩

/-- at first -/
theorem HI.start (hC : HC P ι s w vb off m b mb i' c0 c cb e eb pb lv lb) (hi : 1 ≤ i') : HI P ι s w vb off m b c e eb pb lv lb i' w := by
  have hf := hC.srel.fresh
  obtain ⟨ov, v1, v2⟩ := hC.srel.obj _ _ _ hC.iv hC.gv
  obtain ⟨ob, b1, b2⟩ := hC.srel.obj _ _ _ hC.ib hC.gb
  have hbO : OwnedL ι s lb.blk := ⟨b, lb, _, hC.lob, hC.ib, rfl, hC.gb, by simp [NotHole]⟩
  have lt : ∀ id l, ι id = some l → id < s.nx := by
    intro id l hi
    rcases Nat.lt_or_ge id s.nx with y | y
    · exact y
    · rw [hf id y] at hi; cases hi
  refine ⟨Nat.le_refl _, rfl, rfl, rfl, fun _ _ _ => rfl, .inr hbO, hC.srel.bound _ _ hC.ib, ?_, ?_, ?_, ?_⟩
  · cases b2 with
    | dead _ hd => simp at hd
    | blk a1 a2 a3 a4 => exact ⟨_, b1, .row a1 a4⟩
  · intro id l o hi hne hg
    have := lt _ _ hi
    rcases headS_cases _ _ _ _ _ _ _ _ _ _ _ hg with ⟨a, _⟩ | ⟨_, a, _⟩ | ⟨_, _, _, _, _, _, a⟩
    · omega
    · exact absurd a hne
    · exact hC.srel.obj id l o hi a
  · cases v2 with
    | dead _ hd => simp at hd
    | blk a1 a2 a3 a4 =>
      obtain ⟨v', x1, x2⟩ := a3 off _ hC.cell hC.offm
      obtain ⟨l, off', c', y1, y2, y3, y4, y5, y6, rfl⟩ := x2.slice_inv
      rw [hC.ib] at y1; cases y1
      have hc' : c' ≠ 0 := by omega
      have e6 := y6 hc'
      have e5 := y5 1 rfl hc'
      simp only [Nat.add_zero, Nat.mul_one] at e5 e6
      subst e6
      exact ⟨_, _, i', c', v1, a1, a2, a4, fun q v h1 h2 _ => a3 q v h1 h2, x1, by omega, e5, Nat.le_refl _⟩
  · intro id l o hi hbl hg
    have := lt _ _ hi
    rcases headS_cases _ _ _ _ _ _ _ _ _ _ _ hg with ⟨a, _⟩ | ⟨_, rfl, rfl⟩ | ⟨_, _, np, _, _, nb, a⟩
    · omega
    · exfalso
      rcases hC.srel.alias id b l lb _ _ (Ne.symm hC.bv) hi hC.ib hbl hC.gv hC.gb with x | x | x | x
      · simp [Dead] at x
      · simp [Dead] at x
      · simp [Par] at x
      · exact hC.pv (by simpa [Par] using x)
    · rcases hC.srel.alias id b l lb _ _ nb hi hC.ib hbl a hC.gb with x | x | x | x
      · exact x
      · simp [Dead] at x
      · by_cases hd : Dead o
        · exact hd
        · obtain ⟨_, y⟩ := hC.srel.par id o b a (by rw [hi]; simp) hd x
          obtain ⟨bb, e1, e2⟩ := y _ hC.gb
          cases e1; exact absurd rfl e2
      · exact absurd (by simpa [Par] using x) np

end
end
end Go.AM
/- Loops over a number: a round, and the whole loop. -/
namespace Go.AM
variable {P : Program} {K : Known} {w0 : Start} {B : Base}

theorem sameIn_spec {h h' : T AObj} : ∀ (n i : Nat), sameIn h h' n i = true → ∀ j, i ≤ j → j < i + n → h'.get j = h.get j
  | 0, i, _, j, a, b => by omega
  | n + 1, i, hs, j, a, b => by
    simp only [sameIn, Bool.and_eq_true] at hs
    by_cases e : j = i
    · subst e
      have := hs.1
      cases h1 : h.get j <;> cases h2 : h'.get j <;> rw [h1, h2] at this <;> simp only [eqOptO] at this
      · cases this
      · cases this
      · rw [eqO_eq _ _ this]
    · exact sameIn_spec n _ hs.2 j (by omega) (by omega)

structure BackOf (s2 : S) (hI : T AObj) (cI : T Value) (vb off X m : Nat) (e eb : TypeId) : Prop where
  ex : ∃ c2 mm, s2.h.get vb = some (.blk ⟨c2, m, e, none, 0⟩) ∧ c2.get off = some (.chan (some mm)) ∧ symCode mm = 15 ∧ symLen mm = oddZ X ∧ symOff mm = 1 ∧ X + 3 ≤ symRow mm ∧
    s2.h.get (symRow mm) = some (.row eb) ∧ c2.set off (.chan (some (symRowMk X (oddZ X) 0))) = cI
  same : ∀ id, vb < id → id < X → s2.h.get id = hI.get id

theorem headBack_spec {sI s2 : S} {cI : T Value} {vb off X m : Nat} {e eb : TypeId} (h : headBack sI s2 cI vb off X m e eb = true) (hX : vb < X) : BackOf s2 sI.h cI vb off X m e eb := by
  unfold headBack at h
  cases hg : s2.h.get vb with
  | none => simp [hg] at h
  | some o =>
    cases o with
    | blk bb =>
      obtain ⟨c2, m2, e2, q, st⟩ := bb
      cases q with
      | some _ => simp [hg] at h
      | none =>
        cases st with
        | succ _ => simp [hg] at h
        | zero =>
          simp only [hg] at h
          cases hc : c2.get off with
          | none => simp [hc] at h
          | some v =>
            cases v with
            | chan q =>
              cases q with
              | none => simp [hc] at h
              | some mm =>
                simp only [hc, Bool.and_eq_true, Nat.beq_eq, Nat.ble_eq] at h
                obtain ⟨⟨⟨⟨⟨⟨⟨⟨h1, h2⟩, h3⟩, h4⟩, h5⟩, h6⟩, rfl⟩, rfl⟩, h9⟩ := h
                refine ⟨⟨c2, mm, hg, hc, h1, h2, h3, h4, ?_, eqT_eq eqVal_eq h6⟩, fun id h1 h2 => sameIn_spec _ _ h9 id h1 ?_⟩
                · cases hr : s2.h.get (symRow mm) with
                  | none => rw [hr] at h5; simp [eqOptO] at h5
                  | some o => rw [hr] at h5; simp only [eqOptO] at h5; rw [eqO_eq _ _ h5]
                · have e1 : Nat.sub X (Nat.succ vb) = X - (vb + 1) := rfl
                  have e2 : Nat.succ vb = vb + 1 := rfl
                  rw [e1, e2]; omega
            | _ => simp [hc] at h
    | _ => simp [hg] at h

section
variable {ι : Inj} {s : S} {w : World} {vb off m b mb i' c0 : Nat} {c cb : T Value} {e eb : TypeId} {pb : Option Nat} {lv lb lX : Loc} {j : Nat} {w1 : World}

theorem HI.step (hC : HC P ι s w vb off m b mb i' c0 c cb e eb pb lv lb) (h : HI P ι s w vb off m b c e eb pb lv lX j w1) (hj : j ≤ 1000000) {ι2 : Inj} {s2 : S} {w2 : World} (hS : SRel P ι2 s2 w2)
    (F : Fm (s.nx + 3) (headI ι s.nx lX (numL lv j)) (headS s vb off c m e b pb eb) w1 ι2 s2 w2) (hb : headBack (headS s vb off c m e b pb eb) s2 (c.set off (.chan (some (symRowMk s.nx (oddZ s.nx) 0)))) vb off s.nx m e eb = true) :
    ∃ lX2, HI P ι s w vb off m b c e eb pb lv lX2 (j + 1) w2 := by
  have hf := hC.srel.fresh
  have hvlt := hC.vlt
  obtain ⟨⟨c2, mm, g1, g2, q1, q2, q3, q4, g3, hcI⟩, hsame⟩ := headBack_spec hb hvlt
  have hSI := h.srel hC hj
  have hxI := headI_ext (ι := ι) (lX := lX) (lZ := numL lv j) hf
  have hx : Ext ι ι2 := hxI.trans F.ext
  -- the cell
  obtain ⟨ov, v1, v2⟩ := hS.obj _ _ _ (hx _ _ hC.iv) g1
  cases v2 with
  | dead _ hd => simp at hd
  | blk a1 a2 a3 a4 =>
    rename_i cells fr
    obtain ⟨v', x1, x2⟩ := a3 off _ g2 hC.offm
    obtain ⟨lX2, lz, nn, cc, y1, y2, y3, y4, y5, y6, rfl⟩ := x2.row_inv q1
    rw [q2] at y2
    have hz : ι2 (oddZ s.nx) = some (numL lv j) := F.ext _ _ (headI_z _ _ _ _)
    rw [hz] at y2; cases y2
    rw [q3] at y5
    have hnone : headI ι s.nx lX (numL lv j) (symRow mm) = none := hSI.fresh _ (by rw [headS_nx]; exact q4)
    have getI : ∀ id l o, ι id = some l → (headS s vb off c m e b pb eb).h.get id = some o → id ≠ vb → s2.h.get id = some o := by
      intro id l o hi hg hne
      have hlt : id < s.nx := by
        rcases Nat.lt_or_ge id s.nx with y | y
        · exact y
        · rw [hf id y] at hi; cases hi
      rcases Nat.lt_or_ge id vb with y | y
      · rw [F.low id (by rw [headS_lo]; exact y)]; exact hg
      · rw [hsame id (by omega) hlt]; exact hg
    refine ⟨lX2, ⟨Nat.le_trans h.size F.size, by rw [F.os, h.os], by rw [F.out, h.out], by rw [F.tape, h.tape], ?_, ?_, hS.bound _ _ y1, hS.obj _ _ _ y1 g3 |>.imp fun o' x => ⟨x.1, ?_⟩, ?_, ?_, ?_⟩⟩
    · intro q hq hno
      rw [F.heap q (Nat.lt_of_lt_of_le hq h.size) ?_, h.heap q hq hno]
      rintro ⟨id, l, o, b1, rfl, b3, b4⟩
      rcases HI.owns hC b1 b3 b4 with ⟨_, rfl⟩ | ⟨_, x, o0, y, z⟩
      · rcases h.newX with x | x
        · omega
        · exact hno x.owned
      · exact hno ⟨id, l, o0, x, rfl, y, z⟩
    · rcases F.new _ _ hnone y1 with x | ⟨id, l, o, b0, b1, b2, b3, b4⟩
      · exact .inl (Nat.le_trans h.size x)
      · rw [headS_lo] at b0
        rcases HI.owns hC b1 b3 b4 with ⟨_, rfl⟩ | ⟨_, x, o0, y, z⟩
        · rw [← b2]; exact h.newX
        · exact .inr ⟨id, l, o0, Nat.le_trans hC.lov b0, x, b2, y, z⟩
    · -- a row stands for itself
      have := x.2
      cases this with
      | row c1 c2 => exact .row c1 c2
    · intro id l o hi hne hg
      obtain ⟨o1, r1, r2⟩ := h.old id l o hi hne hg
      obtain ⟨o2, r3, r4⟩ := hS.obj id l o (hx _ _ hi) (getI id l o hi hg hne)
      exact ⟨o2, r3, r2.back hx r4⟩
    · obtain ⟨cells0, fr0, _, _, z1, z2, z3, z4, z5, _⟩ := h.vbx
      refine ⟨cells, fr, nn, cc, v1, a1, a2, a4, fun q v hq hqm hqo => ?_, x1, y3, y4, y5⟩
      obtain ⟨v0, u1, u2⟩ := z5 q v hq hqm hqo
      have hq2 : c2.get q = some v := by
        have e1 : (c2.set off (.chan (some (symRowMk s.nx (oddZ s.nx) 0)))).get q = (c.set off (.chan (some (symRowMk s.nx (oddZ s.nx) 0)))).get q := by rw [hcI]
        rw [T.get_set, T.get_set, if_neg hqo, if_neg hqo] at e1
        rw [e1]; exact hq
      obtain ⟨v3, u3, u4⟩ := a3 q v hq2 hqm
      exact ⟨v3, u3, u2.back hx u4⟩
    · intro id l o hi hbl hg
      have hlt : id < s.nx := by
        rcases Nat.lt_or_ge id s.nx with y | y
        · exact y
        · rw [hf id y] at hi; cases hi
      by_cases hv : id = vb
      · subst hv
        have := hS.row_alone y1 g3 (by omega) (hx _ _ hi) hbl g1
        simp [Dead] at this
      · exact hS.row_alone y1 g3 (by omega) (hx _ _ hi) hbl (getI id l o hi hg hv)

end

section
variable {fn nt : Nat} {kind : CallKind} {ds' : List Deferred} {cs : List Frame} {ι : Inj} {s : S} {w : World} {vb off m b mb i' c0 : Nat} {c cb : T Value} {e eb : TypeId} {pb : Option Nat} {lv lb lX : Loc} {j : Nat} {w1 : World}
variable {gP : T Value} {p : PatI} {code : Code} {id : Nat}

/-- what the temporaries are at a round's head -/
structure HT (ι : Inj) (gP : T Value) (p : PatI) (nt : Nat) (j : Nat) (n : Int) (tmps : Array Value) : Prop where
  rel : TmpRel ι gP tmps
  size : tmps.size = nt
  ci : rho tmps (.tmp p.ci) = .int .i64 (j : Int)
  cn : rho tmps (.tmp p.cn) = .int .i64 n

theorem rho_tmp (tmps : Array Value) (t : Tmp) : rho tmps (.tmp t) = tmps.getD t undef := rfl

theorem TmpRel.atPoi {ι : Inj} {g : T Value} {tmps : Array Value} (h : TmpRel ι g tmps) {d : Tmp} (hp : ev g (.tmp d) = poi) (v : Value) : TmpRel ι g (pt tmps (some d) v) := by
  intro t
  by_cases e : t = d
  · subst e; rw [hp]; exact .poi _
  · rw [pt_get (by simpa using Ne.symm e)]; exact h t

/-- one round -/
theorem int_round (hK : KnownOk P K w0) (hmix : P.follows .mixedOrders = true) (hp : PatIOf code id p) (hC : HC P ι s w vb off m b mb i' c0 c cb e eb pb lv lb) (hini : Ini w0 ι s w) (hfunc : ∃ f, P.funcs[fn]? = some f)
    {n : Int} (hn : n ≤ 80000) (hci : p.ci < nt) (hcn : p.cn < nt) (htb : p.tb < nt) (htx : p.tx < nt) (pci : ev gP (.tmp p.ci) = poi) (ptb : ev gP (.tmp p.tb) = poi) (ptx : ev gP (.tmp p.tx) = poi)
    (gcn : ev gP (.tmp p.cn) = .int .i64 n) {g1 : T Value} {s2 : S} {fr2 : Fr}
    (hrun : runB P K 2000 ⟨[⟨fn, nt, gP.set p.ci (.chan (some (symMk (oddZ s.nx) 0 0))), [.code p.body], [], .run, false, none⟩], headS s vb off c m e b pb eb⟩ = .idle fr2 s2)
    (hfr : fr2.g = g1 ∧ fr2.defers = [] ∧ fr2.rnd = none) (hkp : keptT (gP.set p.ci (.chan (some (symMk (oddZ s.nx) 0 0)))) g1 nt = true)
    (hb : headBack (headS s vb off c m e b pb eb) s2 (c.set off (.chan (some (symRowMk s.nx (oddZ s.nx) 0)))) vb off s.nx m e eb = true)
    (h : HI P ι s w vb off m b c e eb pb lv lX j w1) {tmps : Array Value} (hT : HT ι gP p nt j n tmps) (hlt : (j : Int) < n) {k' : List Item} :
    ∃ lX2 w2 tmps2, Steps P (lone (mkF fn ⟨kind, none⟩ tmps ds' (.inLoop code :: .inBlock id :: k')) cs w1) (lone (mkF fn ⟨kind, none⟩ tmps2 ds' (.inLoop code :: .inBlock id :: k')) cs w2) ∧
      HI P ι s w vb off m b c e eb pb lv lX2 (j + 1) w2 ∧ HT ι gP p nt (j + 1) n tmps2 := by
  have hj : j ≤ 1000000 := by omega
  have hf := hC.srel.fresh
  have hSI := h.srel hC hj
  have hiniI := h.ini hC hini
  have hxI := headI_ext (ι := ι) (lX := lX) (lZ := numL lv j) hf
  obtain ⟨m1, m2, m3⟩ := symMk_spec (id := oddZ s.nx) (code := 0) (off := 0) (by omega) (by omega)
  have hsym : VRel (headI ι s.nx lX (numL lv j)) (.chan (some (symMk (oddZ s.nx) 0 0))) (.int .i64 (j : Int)) := by
    have := VRel.sym (ι := headI ι s.nx lX (numL lv j)) (m := symMk (oddZ s.nx) 0 0) (l := numL lv j) (k := .i64) (by rw [m1]; exact headI_z _ _ _ _) (by rw [m2]; rfl) (by rw [m1, symB_odd]; show j < 90000; omega) (by rw [m3]; omega)
    rw [m3] at this
    simpa using this
  -- the head
  have hbeg := int_begin (P := P) (fn := fn) (nt := nt) (kind := ⟨kind, none⟩) (ds' := ds') (cs := cs) (w := w1) hp hT.size htb hT.ci hT.cn hlt (K0 := .inBlock id :: k')
  -- the body
  have hT0 : TmpRel ι gP (pt tmps (some p.tb) (.bool true)) := hT.rel.atPoi ptb _
  have hG : TmpRel (headI ι s.nx lX (numL lv j)) (gP.set p.ci (.chan (some (symMk (oddZ s.nx) 0 0)))) (pt tmps (some p.tb) (.bool true)) := by
    intro t
    rw [ev_set]
    by_cases et : t = p.ci
    · subst et
      rw [if_pos rfl]
      have : (pt tmps (some p.tb) (.bool true)).getD p.ci undef = .int .i64 (j : Int) := by
        rw [pt_get (by simpa using hp.n1)]; exact hT.ci
      rw [this]; exact hsym
    · rw [if_neg et]; exact (hT0 t).mono hxI
  let BB : Base := ⟨⟨.inBlock p.id2 :: .code p.r5 :: .inLoop code :: .inBlock id :: k', ds', none, some (fn, nt, kind)⟩, s.nx + 3, cs⟩
  have hsz0 : (pt tmps (some p.tb) (.bool true)).size = nt := by rw [pt_size]; exact hT.size
  have hvlt := hC.vlt
  have hR0 : RSt P BB w0 (headI ι s.nx lX (numL lv j)) (s.nx + 3) BB.sf ⟨fn, nt, gP.set p.ci (.chan (some (symMk (oddZ s.nx) 0 0))), [.code p.body], [], .run, false, none⟩ [] (headS s vb off c m e b pb eb)
      (mkF fn ⟨kind, none⟩ (pt tmps (some p.tb) (.bool true)) ds' (.code p.body :: .inBlock p.id2 :: .code p.r5 :: .inLoop code :: .inBlock id :: k')) cs w1 := by
    refine ⟨.base, ⟨rfl, hfunc, .none, fun x => absurd rfl x, ⟨nofun, fun q hq => by cases hq; exact ⟨rfl, rfl, rfl⟩⟩, hsz0, .nil, .run, fun _ => .plain hG ?_, fun x => absurd rfl x⟩, hSI, Nat.le_refl _, ?_, hiniI⟩
    · exact .cons (.code p.body) .nil
    · rw [headS_lo, headS_nx]; omega
  have h1 := runB_ok hK hmix 2000 hR0
  rw [hrun] at h1
  obtain ⟨ι2, top, w3, e3, e4, st3, R3, F2⟩ := h1
  obtain ⟨fa, fb, g1', fc, fd, fe, ff, fg⟩ := fr2
  obtain ⟨rfl, rfl, rfl⟩ := hfr
  simp only at e3 e4
  subst e3 e4
  have T3 := R3.top
  obtain ⟨k1, k2, k3⟩ := T3.kind.2 _ rfl
  simp only at k1 k2
  subst k1 k2
  have hmode : top.mode = .run := by
    have := T3.mode
    generalize top.mode = mm at this
    cases this; rfl
  have htd : top.todo = .inBlock p.id2 :: .code p.r5 :: .inLoop code :: .inBlock id :: k' ∧ TmpRel ι2 g1' top.tmps := by
    have := T3.body rfl
    simp only at this
    have hKsf : BB.sf.K = .inBlock p.id2 :: .code p.r5 :: .inLoop code :: .inBlock id :: k' := rfl
    rw [hKsf] at this
    generalize top.todo = td at this
    cases this with
    | plain a b => cases b; exact ⟨rfl, a⟩
  have hdd : top.defers = ds' := by
    have := T3.defers
    have hDsf : BB.sf.D = ds' := rfl
    rw [hDsf] at this
    generalize top.defers = td at this
    cases this; rfl
  have htop : top = mkF fa ⟨kind, none⟩ top.tmps ds' (.inBlock p.id2 :: .code p.r5 :: .inLoop code :: .inBlock id :: k') := by
    have := frame_eta top hmode
    rw [T3.fn, k3, hdd, htd.1, T3.rnd.isNone] at this
    exact this
  rw [htop] at st3
  have hkept := kept_rel F2.ext hsz0 T3.size hG htd.2 hkp
  have hrci : rho top.tmps (.tmp p.ci) = .int .i64 (j : Int) := by
    have := hkept p.ci
    rw [ev_set, if_pos rfl] at this
    obtain ⟨l, x1, _, _, x4⟩ := this.sym_inv (k := .i64) (by rw [m2]; rfl)
    rw [m1, headI_z] at x1; cases x1
    rw [rho_tmp, x4, m3]; simp
  have hgP : TmpRel ι gP top.tmps := by
    intro t
    by_cases et : t = p.ci
    · subst et; rw [pci]; exact .poi _
    · have := hkept t
      rw [ev_set, if_neg et] at this
      exact (hT.rel t).back hxI this
  have hmid := int_mid (P := P) (fn := fa) (nt := fb) (kind := ⟨kind, none⟩) (tmps := top.tmps) (ds' := ds') (cs := cs) (w := w3) hp T3.size htx hrci (by omega) (by omega) (K0 := .inLoop code :: .inBlock id :: k')
  obtain ⟨lX2, h2⟩ := h.step hC hj R3.srel F2 hb
  refine ⟨lX2, w3, _, hbeg.trans (st3.trans hmid), h2, ?_, ?_, ?_, ?_⟩
  · exact (hgP.atPoi ptx _).atPoi pci _
  · rw [pt_size, pt_size]; exact T3.size
  · rw [rho_pt_self (by rw [pt_size]; show p.ci < top.tmps.size; rw [T3.size]; exact hci)]; simp
  · rw [rho_pt hp.n5, rho_pt hp.n4]
    have := hgP p.cn
    rw [gcn] at this
    exact this.int_inv

/-- all rounds -/
theorem int_all (hK : KnownOk P K w0) (hmix : P.follows .mixedOrders = true) (hp : PatIOf code id p) (hC : HC P ι s w vb off m b mb i' c0 c cb e eb pb lv lb) (hini : Ini w0 ι s w) (hfunc : ∃ f, P.funcs[fn]? = some f)
    {n : Int} (hn : n ≤ 80000) (hci : p.ci < nt) (hcn : p.cn < nt) (htb : p.tb < nt) (htx : p.tx < nt) (pci : ev gP (.tmp p.ci) = poi) (ptb : ev gP (.tmp p.tb) = poi) (ptx : ev gP (.tmp p.tx) = poi)
    (gcn : ev gP (.tmp p.cn) = .int .i64 n) {g1 : T Value} {s2 : S} {fr2 : Fr}
    (hrun : runB P K 2000 ⟨[⟨fn, nt, gP.set p.ci (.chan (some (symMk (oddZ s.nx) 0 0))), [.code p.body], [], .run, false, none⟩], headS s vb off c m e b pb eb⟩ = .idle fr2 s2)
    (hfr : fr2.g = g1 ∧ fr2.defers = [] ∧ fr2.rnd = none) (hkp : keptT (gP.set p.ci (.chan (some (symMk (oddZ s.nx) 0 0)))) g1 nt = true)
    (hb : headBack (headS s vb off c m e b pb eb) s2 (c.set off (.chan (some (symRowMk s.nx (oddZ s.nx) 0)))) vb off s.nx m e eb = true) {k' : List Item} :
    ∀ (r : Nat) (lX : Loc) (j : Nat) (w1 : World) (tmps : Array Value), ((j + r : Nat) : Int) = n → HI P ι s w vb off m b c e eb pb lv lX j w1 → HT ι gP p nt j n tmps →
    ∃ lX2 w2 tmps2, Steps P (lone (mkF fn ⟨kind, none⟩ tmps ds' (.inLoop code :: .inBlock id :: k')) cs w1) (lone (mkF fn ⟨kind, none⟩ (pt tmps2 (some p.tb) (.bool false)) ds' k') cs w2) ∧
      HI P ι s w vb off m b c e eb pb lv lX2 (j + r) w2 ∧ HT ι gP p nt (j + r) n tmps2
  | 0, lX, j, w1, tmps, hjn, h, hT => by
    have := int_over (P := P) (fn := fn) (nt := nt) (kind := ⟨kind, none⟩) (ds' := ds') (cs := cs) (w := w1) hp hT.size htb hT.ci hT.cn (by omega) (k' := k')
    exact ⟨lX, w1, tmps, this, h, hT⟩
  | r + 1, lX, j, w1, tmps, hjn, h, hT => by
    obtain ⟨lX1, w2, tmps2, st, h2, hT2⟩ := int_round (kind := kind) (ds' := ds') (cs := cs) (k' := k') hK hmix hp hC hini hfunc hn hci hcn htb htx pci ptb ptx gcn hrun hfr hkp hb h hT (by omega)
    obtain ⟨lX3, w3, tmps3, st3, h3, hT3⟩ := int_all hK hmix hp hC hini hfunc hn hci hcn htb htx pci ptb ptx gcn hrun hfr hkp hb r lX1 (j + 1) w2 tmps2 (by omega) h2 hT2
    rw [show j + (r + 1) = j + 1 + r by omega]
    exact ⟨lX3, w3, tmps3, st.trans st3, h3, hT3⟩

end

theorem intLoop_ok (hK : KnownOk P K w0) (hmix : P.follows .mixedOrders = true) {ι : Inj} {hb : Nat} {sf : Suf} {fn nt : Nat} {g : T Value} {ds : List ADef} {d : Bool} {rest : List Fr} {s : S} {kind : CallKind} {tmps : Array Value} {ds' : List Deferred} {cs : List Frame} {w : World}
    (h : Run1 P B w0 ι hb sf fn nt g ds d none rest s ⟨kind, none⟩ tmps ds' cs w) (ht : TmpRel ι g tmps) {code : Code} {id : Nat} {p : PatI} (hpat : patI code id = some p) {g' : T Value} {s' : S} (hm : intLoop P K fn nt g p s = some (g', s'))
    {k : List AItem} {k' : List Item} (hk : ItsRel P nt ι sf.K k k') :
    ResPost' P B w0 ι s w (lone (mkF fn ⟨kind, none⟩ tmps ds' (.inLoop code :: .inBlock id :: k')) cs w) (.next ⟨⟨fn, nt, g', k, ds, .run, d, none⟩ :: rest, s'⟩) := by
  have hP := patI_spec hpat
  unfold intLoop headG at hm
  simp only [] at hm
  have ht0 : TmpRel ι (clearI p g) tmps := clearT_rel _ ht
  have pci : ev (clearI p g) (.tmp p.ci) = poi := clearT_mem (by simp)
  have ptb : ev (clearI p g) (.tmp p.tb) = poi := clearT_mem (by simp)
  have ptx : ev (clearI p g) (.tmp p.tx) = poi := clearT_mem (by simp)
  have pcn : ev (clearI p g) (.tmp p.cn) = ev g (.tmp p.cn) ∨ ev (clearI p g) (.tmp p.cn) = poi := clearT_get _ _ _
  generalize clearI p g = gP at hm ht0 pci ptb ptx pcn
  split at hm
  · rename_i i n ta hi hn hta
    split at hm
    · rename_i vb off sp hev
      split at hm
      · rename_i c m e hgv
        split at hm
        · rename_i b i' c0 hcell
          split at hm
          · rename_i cb mb eb pb hgb
            cases hcond : inR 1 80000 i && inR 100 80000 n && decide (i ≤ n) && decide (i = Int.ofNat i') && Nat.blt off m && !Nat.beq b vb && Nat.ble s.lo vb && Nat.ble s.lo b && parLo s.lo vb pb && Nat.blt s.nx 16000000 &&
                Nat.blt p.ci nt && Nat.blt p.cn nt && Nat.blt p.tb nt && Nat.blt p.tx nt && kindOfInt (ev (gP.set p.ci (.chan (some (symMk (oddZ s.nx) 0 0)))) (.tmp p.cn)) with
            | false => rw [hcond] at hm; cases hm
            | true =>
              rw [hcond] at hm; simp only [cond_true] at hm
              simp only [Bool.and_eq_true, Nat.ble_eq, Nat.blt_eq, Bool.not_eq_true', decide_eq_true_eq] at hcond
              obtain ⟨⟨⟨⟨⟨⟨⟨⟨⟨⟨⟨⟨⟨⟨c1, c2⟩, c3⟩, c4⟩, c5⟩, c6⟩, c7⟩, c8⟩, c9⟩, c10⟩, c11⟩, c12⟩, c13⟩, c14⟩, c15⟩ := hcond
              simp only [inR, Bool.and_eq_true, decide_eq_true_eq] at c1 c2
              split at hm
              · rename_i fa fb g1 fc fe ff s2 hrun
                cases hc2 : keptT (gP.set p.ci (.chan (some (symMk (oddZ s.nx) 0 0)))) g1 nt && headBack (headS s vb off c m e b pb eb) s2 (c.set off (.chan (some (symRowMk s.nx (oddZ s.nx) 0)))) vb off s.nx m e eb with
                | false => rw [hc2] at hm; cases hm
                | true =>
                  rw [hc2] at hm; simp only [cond_true, Option.some.injEq, Prod.mk.injEq] at hm
                  simp only [Bool.and_eq_true] at hc2
                  obtain ⟨hkp, hbk⟩ := hc2
                  obtain ⟨rfl, rfl⟩ := hm
                  obtain ⟨v0, hv0⟩ := evT_rl h.srel (fun t => ⟨_, ht0 t⟩) _ _ _ hev
                  obtain ⟨lv, iv, _⟩ := hv0.ptr_inv
                  simp only at iv
                  obtain ⟨ov, v1, v2⟩ := h.srel.obj _ _ _ iv hgv
                  have hbv : b ≠ vb := fun x => by rw [x, Nat.beq_refl] at c6; cases c6
                  cases v2 with
                  | dead _ hd => simp at hd
                  | blk a1 a2 a3 a4 =>
                    obtain ⟨v', x1, x2⟩ := a3 off _ hcell c5
                    obtain ⟨lb, _, _, ib, _⟩ := x2.slice_inv
                    simp only at ib
                    have hC : HC P ι s w vb off m b mb i' c0 c cb e eb pb lv lb := by
                      refine ⟨h.srel, h.lo, iv, hgv, hcell, c5, ib, hgb, hbv, ?_, c7, c8, ?_, c10⟩
                      · intro x; rw [x] at c9; simp only [parLo, Bool.and_eq_true, Bool.not_eq_true'] at c9
                        have := c9.2; rw [Nat.beq_refl] at this; cases this
                      · intro q x; rw [x] at c9; simp only [parLo, Bool.and_eq_true] at c9
                        exact Nat.le_of_ble_eq_true c9.1
                    have c4' : i = (i' : Int) := c4
                    subst c4'
                    have hst := HI.start hC (by omega)
                    have hcn : ev gP (.tmp p.cn) = .int .i64 n := by
                      rcases pcn with x | x
                      · rw [x, hn]
                      · rw [ev_set, if_neg (Ne.symm hP.n5), x] at c15; simp [kindOfInt, poi] at c15
                    have hT0 : HT ι gP p nt i' n tmps := by
                      refine ⟨ht0, h.size, ?_, ?_⟩
                      · have := ht p.ci
                        rw [hi] at this
                        exact this.int_inv
                      · have := ht0 p.cn
                        rw [hcn] at this
                        exact this.int_inv
                    obtain ⟨N, hN⟩ : ∃ N : Nat, (N : Int) = n := ⟨n.toNat, by omega⟩
                    obtain ⟨lX2, w2, tmps2, st, h2, hT2⟩ := int_all (kind := kind) (ds' := ds') (cs := cs) (k' := k') hK hmix hP hC h.ini h.func (by omega) c11 c12 c13 c14 pci ptb ptx hcn hrun ⟨rfl, rfl, rfl⟩ hkp hbk (N - i') lb i' w tmps (by omega) hst hT0
                    have hSf := h2.srel hC (by omega)
                    have hFf := h2.fm hC
                    have hxf := hFf.ext
                    have hTf : TmpRel (headI ι s.nx lX2 (numL lv (i' + (N - i')))) (((gP.set p.ci (.chan (some (symMk (oddZ s.nx) 0 0)))).set p.ci (.int .i64 n)).set p.tb (.bool false)) (pt tmps2 (some p.tb) (.bool false)) := by
                      refine TmpRel.putD (nt := nt) ?_ hT2.size (dst := some p.tb) (by simpa [dstOk] using c13) (.bool false)
                      intro t
                      rw [ev_set]
                      by_cases et : t = p.ci
                      · subst et
                        rw [if_pos rfl]
                        have := hT2.ci
                        rw [rho_tmp] at this
                        rw [this, show ((i' + (N - i') : Nat) : Int) = n by omega]
                        exact .int _ _
                      · rw [if_neg et, ev_set, if_neg et]
                        exact (hT2.rel t).mono hxf
                    have hSf' : SRel P (headI ι s.nx lX2 (numL lv (i' + (N - i')))) ⟨(headS s vb off c m e b pb eb).h, s.nx + 3, s.lo⟩ w2 :=
                      SRel.shift (n := s.nx + 3) (lo := vb) hSf (Nat.le_refl _)
                    exact next_body h st (by rw [pt_size]; exact hT2.size) hSf' (hFf.weaken h.hb) (.plain hTf (hk.mono hxf))
              · cases hm
          · cases hm
        · cases hm
      · cases hm
    · cases hm
  · cases hm

end Go.AM
/- Runs of the abstract machine. -/
namespace Go.AM
variable {P : Program} {K : Known} {w0 : Start} {B : Base}

theorem stepM_ok (hK : KnownOk P K w0) (hmix : P.follows .mixedOrders = true) {ι : Inj} {hb : Nat} {sf : Suf} {fr : Fr} {rest : List Fr} {s : S} {top : Frame} {cs : List Frame} {w : World} (h : RSt P B w0 ι hb sf fr rest s top cs w) :
    ResPost' P B w0 ι s w (lone top cs w) (stepM P K ⟨fr :: rest, s⟩) := by
  have hdef := step_ok hK hmix h
  unfold stepM
  split
  · rename_i fn nt g c id k ds d cs0 s0 heq
    simp only [St.mk.injEq, List.cons.injEq] at heq
    obtain ⟨⟨rfl, rfl⟩, rfl⟩ := heq
    cases hp : patI c id with
    | none => exact hdef
    | some p =>
      simp only []
      cases hm : intLoop P K fn nt g p s with
      | none => exact hdef
      | some q =>
        obtain ⟨g', s'⟩ := q
        simp only []
        obtain ⟨hcal, hT, hS, hhb, hlo, hini⟩ := h
        have hrn := hT.rnd.isNone
        have hrk := hT.rk
        simp only at hrk
        have hmode : top.mode = .run := by
          have := hT.mode
          generalize top.mode = mm at this
          cases this; rfl
        rw [frame_eta top hmode, hrn]
        have hR : Run1 P B w0 ι hb sf fn nt g ds d none rest s ⟨top.kind, none⟩ top.tmps top.defers cs w := ⟨hcal, hT.func, .none, hrk, hT.kind, hT.size, hT.defers, hS, hhb, hlo, hini⟩
        have hfn := hT.fn
        have hbody := hT.body rfl
        simp only at hfn hbody
        rw [hfn]
        generalize top.kind = kind at hR ⊢
        generalize top.tmps = tmps at hR hbody ⊢
        generalize top.defers = ds' at hR ⊢
        generalize top.todo = todo' at hbody ⊢
        cases hbody with
        | plain ht hits =>
          cases hits with
          | cons h1 h2 =>
            cases h1
            cases h2 with
            | cons h3 h4 =>
              cases h3
              exact intLoop_ok hK hmix hR ht hp hm h4
  · rename_i fn nt g c id k ds d cs0 s0 heq
    simp only [St.mk.injEq, List.cons.injEq] at heq
    obtain ⟨⟨rfl, rfl⟩, rfl⟩ := heq
    cases hp : patOf c id with
    | none => exact hdef
    | some p =>
      simp only []
      have hrun : ∃ kind tmps ds' todo', Run1 P B w0 ι hb sf fn nt g ds d none rest s ⟨kind, none⟩ tmps ds' cs w ∧ Body P ι s hb nt sf.K g tmps (.code (.loop c) :: .inBlock id :: k) todo' ∧ lone top cs w = lone (mkF fn ⟨kind, none⟩ tmps ds' todo') cs w := by
        obtain ⟨hcal, hT, hS, hhb, hlo, hini⟩ := h
        have hrn := hT.rnd.isNone
        have hrk := hT.rk
        simp only at hrk
        have hmode : top.mode = .run := by
          have := hT.mode
          generalize top.mode = mm at this
          cases this; rfl
        have hR : Run1 P B w0 ι hb sf fn nt g ds d none rest s ⟨top.kind, none⟩ top.tmps top.defers cs w := ⟨hcal, hT.func, .none, hrk, hT.kind, hT.size, hT.defers, hS, hhb, hlo, hini⟩
        have hfn := hT.fn
        have hbody := hT.body rfl
        simp only at hfn hbody
        exact ⟨top.kind, top.tmps, top.defers, top.todo, hR, hbody, by rw [← hfn, ← hrn, ← frame_eta top hmode]⟩
      obtain ⟨kind, tmps, ds', todo', hR, hbody, hl⟩ := hrun
      cases hm : mapLoop P K fn nt g p s with
      | some q =>
        obtain ⟨g', s'⟩ := q
        simp only []
        rw [hl]
        cases hbody with
        | plain ht hits =>
          cases hits with
          | cons h1 h2 =>
            cases h1
            cases h2 with
            | cons h3 h4 =>
              cases h3
              exact mapLoop_ok hK hmix hR ht hp hm h4
      | none =>
        simp only []
        split
        · rename_i g' s' hfl
          rw [hl]
          cases hbody with
          | plain ht hits =>
            cases hits with
            | cons h1 h2 =>
              cases h1
              cases h2 with
              | cons h3 h4 =>
                cases h3
                obtain ⟨s2, hs2, hr⟩ := forkLoop_ok hK hmix hR ht hp hfl h4
                rw [List.mem_singleton] at hs2; subst hs2
                exact hr
        · exact hdef
  · exact hdef

theorem runM_ok (hK : KnownOk P K w0) (hmix : P.follows .mixedOrders = true) : ∀ (n : Nat) {ι : Inj} {hb : Nat} {sf : Suf} {fr : Fr} {rest : List Fr} {s : S} {top : Frame} {cs : List Frame} {w : World},
    RSt P B w0 ι hb sf fr rest s top cs w → ResPost' P B w0 ι s w (lone top cs w) (match runM P K n ⟨fr :: rest, s⟩ with | .next _ => .bad 0 | r => r)
  | 0, ι, hb, sf, fr, rest, s, top, cs, w, h => by simp only [runM]; trivial
  | n + 1, ι, hb, sf, fr, rest, s, top, cs, w, h => by
    have hs := stepM_ok hK hmix h
    simp only [runM]
    cases hr : stepM P K ⟨fr :: rest, s⟩ with
    | next st =>
      rw [hr] at hs
      obtain ⟨frs, s1⟩ := st
      obtain ⟨ι1, hb1, sf1, fr1, rest1, top1, cs1, w1, rfl, h1, h2, h3⟩ := hs
      simp only []
      exact .of_steps h1 h3 (runM_ok hK hmix n h2)
    | idle fr s => rw [hr] at hs; exact hs
    | stop fr s => rw [hr] at hs; exact hs
    | upd fr s r k x => rw [hr] at hs; exact hs
    | bad n => trivial

/-- what a run of the abstract machine says of the program -/
theorem answersTrue_sound {f : FuncId} {n : Nat} (hrun : answersTrue P K f n = true) (hmix : P.follows .mixedOrders = true) (w : World) (hK : KnownOk P K (.of w)) :
    Calls P f #[] w fun e w' => e = .returned (.bool true) ∧ w.heap.size ≤ w'.heap.size ∧ (∀ b, b < w.heap.size → w'.heap[b]? = w.heap[b]?) ∧ w'.output = w.output ∧ w'.os = w.os ∧ w'.tape = w.tape := by
  unfold answersTrue at hrun
  cases he : enter P f [] false with
  | none => simp [he] at hrun
  | some fr =>
    simp only [he] at hrun
    intro cs
    let B : Base := ⟨⟨[], [], some false, some (f, fr.nt, .normal)⟩, 0, cs⟩
    let ι : Inj := fun _ => none
    have hS : SRel P ι ⟨.leaf, 0, 0⟩ w := ⟨nofun, fun _ _ => rfl, nofun, nofun, fun _ _ _ _ h => absurd rfl h⟩
    have hfn : fr.fn = f := by
      unfold enter at he
      cases hi : finfo P f with
      | none => simp [hi] at he
      | some fi =>
        obtain ⟨nt, c, rs⟩ := fi
        simp only [hi] at he
        cases hle : Nat.ble ([] : List Value).length nt with
        | false => rw [hle] at he; cases he
        | true => rw [hle] at he; simp only [cond_true, Option.some.injEq] at he; subst he; rfl
    have hT0 := enter_ok (args' := #[]) he (ι := ι) .nil ⟨.leaf, 0, 0⟩ 0
    have hT1 : Top P ι ⟨.leaf, 0, 0⟩ B.sf 0 fr (Frame.enter P f #[] .normal) :=
      ⟨hT0.fn, hT0.func, hT0.rnd, hT0.rk, ⟨hT0.kind.1, fun q hq => by cases hq; exact ⟨hfn, rfl, rfl⟩⟩, hT0.size, hT0.defers, hT0.mode, hT0.body, hT0.tmps⟩
    have hR : RSt P B (.of w) ι 0 B.sf fr [] ⟨.leaf, 0, 0⟩ (Frame.enter P f #[] .normal) cs w :=
      ⟨.base, hT1, hS, Nat.le_refl _, Nat.le_refl _, ⟨Nat.le_refl _, fun _ _ => rfl, fun b _ ⟨i, l, o, a, _⟩ => (by cases a), rfl, rfl, rfl, fun i v h => by cases h⟩⟩
    have hrm := runM_ok hK hmix n hR
    cases hr : runM P K n ⟨[fr], ⟨.leaf, 0, 0⟩⟩ with
    | stop fr1 s1 =>
      rw [hr] at hrm hrun
      obtain ⟨ι1, top, w1, hd0, hm0, hst, hR1, hF⟩ := hrm
      obtain ⟨fn1, nt1, g1, td1, dd1, m1, d1, rn1⟩ := fr1
      simp only at hd0 hm0; subst hd0
      cases m1 with
      | run => exact absurd rfl hm0
      | pan ch => simp at hrun
      | returning =>
        simp only [] at hrun
        cases hv : resV P fn1 g1 s1 with
        | none => simp [hv] at hrun
        | some v =>
          simp only [hv] at hrun
          cases v with
          | bool b =>
            simp only [] at hrun; subst hrun
            have hT := hR1.top
            obtain ⟨ff, v', q1, q2, q3⟩ := resV_ok hR1.srel (hT.tmps (by simp)) hv
            have := q2.bool_inv; subst this
            have hmode : top.mode = .returning := by
              have := hT.mode
              generalize top.mode = mm at this
              cases this; rfl
            have hdd : top.defers = [] := by
              have := hT.defers
              generalize top.defers = td at this
              cases this; rfl
            have hkd : top.kind = .normal := (hT.kind.1 false rfl).2
            refine ⟨.returned (.bool true), w1, top, ⟨rfl, hF.size, fun b hb => hR1.ini.same b hb, hF.out, hF.os, hF.tape⟩, hst, by rw [hT.fn]; exact (hT.kind.2 _ rfl).1, hmode, hdd, hkd, ff, by rw [hT.fn]; exact q1, q3⟩
          | _ => simp at hrun
    | _ => rw [hr] at hrun; simp at hrun


/-- a text's end -/
theorem idle_end {fr fr' : Fr} {s : S} {top : Frame} {ι : Inj} {w : World} (h : RSt P B w0 ι B.hb B.sf fr [] s top B.cs w) (hK : B.sf.K = []) (he : endFr fr = some fr') :
    ResPost' P B w0 ι s w (lone top B.cs w) (.next ⟨[fr'], s⟩) := by
  unfold endFr at he
  split at he
  · rename_i fn nt g ds d
    simp only [Option.some.injEq] at he; subst he
    obtain ⟨hcal, hT, hS, hhb, hlo, hini⟩ := h
    have hrn := hT.rnd.isNone
    have hrk := hT.rk
    simp only at hrk
    have hmode : top.mode = .run := by
      have := hT.mode
      generalize top.mode = mm at this
      cases this; rfl
    rw [frame_eta top hmode, hrn]
    have hR : Run1 P B w0 ι B.hb B.sf fn nt g ds d none [] s ⟨top.kind, none⟩ top.tmps top.defers B.cs w := ⟨hcal, hT.func, .none, hrk, hT.kind, hT.size, hT.defers, hS, hhb, hlo, hini⟩
    have hfn := hT.fn
    have hbody := hT.body rfl
    simp only at hfn hbody
    rw [hfn]
    generalize top.kind = kind at hR ⊢
    generalize top.tmps = tmps at hR hbody ⊢
    generalize top.defers = ds' at hR ⊢
    generalize top.todo = todo' at hbody ⊢
    rw [hK] at hbody
    cases hbody with
    | plain ht hits =>
      cases hits
      exact leave_ok hR ht (.one (stepR_end (b := bs fn ⟨kind, none⟩) (a := ⟨tmps, ds'⟩) rfl))
  · cases he

/-- to the end, in some order -/
theorem runF_ok (hK : KnownOk P K w0) (hmix : P.follows .mixedOrders = true) (hBK : B.sf.K = []) : ∀ (n : Nat) {ι : Inj} {hb : Nat} {sf : Suf} {fr : Fr} {rest : List Fr} {s : S} {top : Frame} {cs : List Frame} {w : World} {L : List (Fr × S)},
    RSt P B w0 ι hb sf fr rest s top cs w → runF P K n ⟨fr :: rest, s⟩ = some L → ∃ q ∈ L, ResPost' P B w0 ι s w (lone top cs w) (.stop q.1 q.2)
  | 0, _, _, _, _, _, _, _, _, _, _, _, h => by simp [runF] at h
  | n + 1, ι, hb, sf, fr, rest, s, top, cs, w, L, hR, h => by
    simp only [runF] at h
    cases hf : forkAt P K ⟨fr :: rest, s⟩ with
    | some L1 =>
      simp only [hf] at h
      obtain ⟨st, hst, hp⟩ := forkAt_ok hK hmix hR hf
      obtain ⟨frs, s1⟩ := st
      obtain ⟨ι1, hb1, sf1, fr1, rest1, top1, cs1, w1, rfl, h1, h2, h3⟩ := hp
      obtain ⟨La, e1, e2⟩ := overL_mem h _ hst
      obtain ⟨q, hq, hpq⟩ := runF_ok hK hmix hBK n h2 e1
      exact ⟨q, e2 q hq, .of_steps h1 h3 hpq⟩
    | none =>
      simp only [hf] at h
      have hs := stepM_ok hK hmix hR
      cases hr : stepM P K ⟨fr :: rest, s⟩ with
      | next st =>
        rw [hr] at hs; simp only [hr] at h
        obtain ⟨frs, s1⟩ := st
        obtain ⟨ι1, hb1, sf1, fr1, rest1, top1, cs1, w1, rfl, h1, h2, h3⟩ := hs
        obtain ⟨q, hq, hpq⟩ := runF_ok hK hmix hBK n h2 h
        exact ⟨q, hq, .of_steps h1 h3 hpq⟩
      | stop fr1 s1 =>
        rw [hr] at hs; simp only [hr, Option.some.injEq] at h; subst h
        exact ⟨(fr1, s1), List.mem_singleton.2 rfl, hs⟩
      | idle fr1 s1 =>
        rw [hr] at hs; simp only [hr] at h
        cases he : endFr fr1 with
        | none => simp [he] at h
        | some fr2 =>
          simp only [he] at h
          obtain ⟨ι1, top1, w1, _, _, h1, h2, h3⟩ := hs
          obtain ⟨ι2, hb2, sf2, fr3, rest3, top3, cs3, w3, e3, k1, k2, k3⟩ := idle_end h2 hBK he
          simp only [List.cons.injEq] at e3
          obtain ⟨rfl, rfl⟩ := e3
          obtain ⟨q, hq, hpq⟩ := runF_ok hK hmix hBK n k2 h
          exact ⟨q, hq, .of_steps h1 h3 (.of_steps k1 k3 hpq)⟩
      | upd _ _ _ _ _ => simp [hr] at h
      | bad _ => simp [hr] at h

end Go.AM
/- Functions that are known by their runs in every order. -/
namespace Go.AM
variable {P : Program} {K : Known} {w0 : Start}

/-- o is what an end says of an object, or less -/
def Wk (h : T AObj) (i : Nat) (o oj : AObj) : Prop := o = oj ∨ ∃ c n e q st, oj = .blk ⟨c, n, e, some q, st⟩ ∧ o = .blk ⟨c, n, e, none, st⟩ ∧ q < i ∧ h.get q = none

theorem agree_spec {i : Nat} : ∀ {l : List (T AObj)} {o : AObj} {r : AObj}, agree (some o) l i = some r → r = o ∧ ∀ h ∈ l, h.get i = some o
  | [], o, r, h => by simp only [agree, Option.some.injEq] at h; exact ⟨h.symm, by simp⟩
  | t :: l, o, r, h => by
    simp only [agree] at h
    cases hg : t.get i with
    | none => simp [hg] at h
    | some b =>
      simp only [hg] at h
      cases he : eqO o b with
      | false => rw [he] at h; cases h
      | true =>
        rw [he] at h; simp only [cond_true] at h
        have := eqO_eq _ _ he; subst this
        obtain ⟨h1, h2⟩ := agree_spec h
        exact ⟨h1, fun u hu => by rcases List.mem_cons.1 hu with rfl | hu; · exact hg
                                  · exact h2 u hu⟩
theorem gone_spec {h : T AObj} {i : Nat} {o : AObj} (hg : gone h i o = true) : Wk h i (strip o) o := by
  cases o with
  | blk b =>
    obtain ⟨c, n, e, q, st⟩ := b
    cases q with
    | none => exact .inl rfl
    | some q =>
      simp only [gone, Bool.and_eq_true, Nat.blt_eq] at hg
      refine .inr ⟨c, n, e, q, st, rfl, rfl, hg.1, ?_⟩
      have hg := hg.2
      cases hx : h.get q with
      | none => rfl
      | some _ => simp [hx, isNoneO] at hg
  | _ => exact .inl rfl
theorem agreeS_spec {i : Nat} {o : AObj} {h : T AObj} : ∀ {l : List (T AObj)}, agreeS o h l i = true → ∀ t ∈ l, ∃ b, t.get i = some b ∧ Wk h i o b
  | [], _, t, ht => by simp at ht
  | u :: l, hl, t, ht => by
    simp only [agreeS, Bool.and_eq_true] at hl
    rcases List.mem_cons.1 ht with rfl | ht
    · have h1 := hl.1
      cases hg : t.get i with
      | none => simp [hg] at h1
      | some b =>
        simp only [hg, Bool.and_eq_true] at h1
        have := eqO_eq _ _ h1.1
        exact ⟨b, rfl, this ▸ gone_spec h1.2⟩
    · exact agreeS_spec hl.2 t ht

theorem noneL_spec {i : Nat} : ∀ {l : List (T AObj)}, noneL l i = true → ∀ t ∈ l, t.get i = none
  | [], _, t, ht => by simp at ht
  | u :: l, hl, t, ht => by
    simp only [noneL, Bool.and_eq_true] at hl
    rcases List.mem_cons.1 ht with rfl | ht
    · cases hg : t.get i with
      | none => rfl
      | some b => simp [hg, isNoneO] at hl
    · exact noneL_spec hl.2 t ht

/-- what the ends agree on -/
structure Mg (h1 : T AObj) (L : List (T AObj)) (nx0 a b : Nat) (h hm : T AObj) : Prop where
  out : ∀ i, i < a ∨ b ≤ i → hm.get i = h.get i
  some : ∀ i o, a ≤ i → i < b → hm.get i = some o → ∀ t ∈ h1 :: L, ∃ oj, t.get i = some oj ∧ (o = oj ∨ (nx0 ≤ i ∧ ∃ c n e q st, oj = .blk ⟨c, n, e, some q, st⟩ ∧ o = .blk ⟨c, n, e, none, st⟩ ∧ q < i ∧ hm.get q = none))
  none : ∀ i, a ≤ i → i < b → i < nx0 → hm.get i = none → ∀ t ∈ h1 :: L, t.get i = none

theorem mergeH_spec {h1 : T AObj} {L : List (T AObj)} {nx0 : Nat} : ∀ (n i : Nat) (h hm : T AObj), mergeH h1 L nx0 n i h = some hm → Mg h1 L nx0 i (i + n) h hm
  | 0, i, h, hm, hh => by
    simp only [mergeH, Option.some.injEq] at hh; subst hh
    exact ⟨fun _ _ => rfl, fun i' o a b => by omega, fun i' a b => by omega⟩
  | n + 1, i, h, hm, hh => by
    have key : ∀ (x : Option AObj), mergeH h1 L nx0 n (Nat.succ i) (T.setF (Nat.succ i) h i x) = some hm →
        (∀ o, x = some o → ∀ t ∈ h1 :: L, ∃ oj, t.get i = some oj ∧ (o = oj ∨ (nx0 ≤ i ∧ Wk h i o oj))) → (x = none → i < nx0 → ∀ t ∈ h1 :: L, t.get i = none) → Mg h1 L nx0 i (i + (n + 1)) h hm := by
      intro x hx hsome hnone
      have ih := mergeH_spec n (Nat.succ i) _ hm hx
      have hgi : hm.get i = x := by
        rw [ih.out i (.inl (Nat.lt_succ_self i)), T.get_setF _ _ _ _ _ (Nat.lt_succ_self i), if_pos rfl]
      have hlow : ∀ j, j < i → hm.get j = h.get j := fun j hj => by
        rw [ih.out j (.inl (by omega)), T.get_setF _ _ _ _ _ (Nat.lt_succ_self i), if_neg (by omega)]
      refine ⟨?_, ?_, ?_⟩
      · intro j hj
        rcases hj with hj | hj
        · exact hlow j hj
        · rw [ih.out j (.inr (by omega)), T.get_setF _ _ _ _ _ (Nat.lt_succ_self i), if_neg (by omega)]
      · intro j o ha hb ho t ht
        by_cases e : j = i
        · subst e
          rw [hgi] at ho
          obtain ⟨oj, q1, q2⟩ := hsome o ho t ht
          refine ⟨oj, q1, ?_⟩
          rcases q2 with q2 | ⟨q0, q2 | ⟨c, n', e, q, st, x1, x2, x4, x3⟩⟩
          · exact .inl q2
          · exact .inl q2
          · exact .inr ⟨q0, c, n', e, q, st, x1, x2, x4, by rw [hlow q x4]; exact x3⟩
        · exact ih.some j o (by omega) (by omega) ho t ht
      · intro j ha hb hlt hn t ht
        by_cases e : j = i
        · subst e; rw [hgi] at hn; exact hnone hn hlt t ht
        · exact ih.none j (by omega) (by omega) hlt hn t ht
    simp only [mergeH] at hh
    cases hg : h1.get i with
    | none =>
      simp only [hg] at hh
      cases hc : Nat.blt i nx0 && !noneL L i with
      | true => rw [hc] at hh; cases hh
      | false =>
        rw [hc] at hh; simp only [cond_false] at hh
        refine key none hh (fun o ho => by cases ho) fun _ hlt t ht => ?_
        have hb : Nat.blt i nx0 = true := by simpa using hlt
        simp only [hb, Bool.true_and, Bool.not_eq_false'] at hc
        rcases List.mem_cons.1 ht with rfl | ht
        · exact hg
        · exact noneL_spec hc t ht
    | some o1 =>
      simp only [hg] at hh
      cases ha : agree (some o1) L i with
      | some r =>
        simp only [ha] at hh
        obtain ⟨rfl, h2⟩ := agree_spec ha
        refine key (some r) hh (fun o ho t ht => ?_) fun h => by cases h
        cases ho
        rcases List.mem_cons.1 ht with rfl | ht
        · exact ⟨_, hg, .inl rfl⟩
        · exact ⟨_, h2 t ht, .inl rfl⟩
      | none =>
        simp only [ha] at hh
        cases hb : Nat.blt i nx0 with
        | true => rw [hb] at hh; cases hh
        | false =>
          rw [hb] at hh; simp only [cond_false] at hh
          have hnlt : ¬ i < nx0 := fun h => by rw [show Nat.blt i nx0 = true by simpa using h] at hb; cases hb
          refine key _ hh (fun o ho t ht => ?_) fun _ hlt => absurd hlt hnlt
          cases hs : gone h i o1 && agreeS (strip o1) h L i with
          | false => rw [hs] at ho; cases ho
          | true =>
            rw [hs] at ho; simp only [cond_true, Option.some.injEq] at ho; subst ho
            simp only [Bool.and_eq_true] at hs
            rcases List.mem_cons.1 ht with rfl | ht
            · exact ⟨_, hg, .inr ⟨by omega, gone_spec hs.1⟩⟩
            · obtain ⟨b, x1, x2⟩ := agreeS_spec hs.2 t ht
              exact ⟨b, x1, .inr ⟨by omega, x2⟩⟩

theorem sameEnds_spec {v : Value} {nx : Nat} : ∀ {L : List (Fr × S)}, sameEnds P v nx L = true → ∀ q ∈ L, leafV P q = some v ∧ q.2.nx = nx
  | [], _, q, hq => by simp at hq
  | x :: L, h, q, hq => by
    simp only [sameEnds, Bool.and_eq_true, Nat.beq_eq] at h
    rcases List.mem_cons.1 hq with rfl | hq
    · cases hl : leafV P q with
      | none => simp [hl] at h
      | some v' =>
        have h1 := h.1.1
        simp only [hl] at h1
        rw [← sameV_eq _ _ _ h1]
        exact ⟨rfl, h.1.2⟩
    · exact sameEnds_spec h.2 q hq
theorem heapsOf_mem : ∀ {L : List (Fr × S)} {q : Fr × S}, q ∈ L → q.2.h ∈ heapsOf L
  | [], q, h => by simp at h
  | x :: L, q, h => by
    simp only [heapsOf, List.mem_cons]
    rcases List.mem_cons.1 h with rfl | h
    · exact .inl rfl
    · exact .inr (heapsOf_mem h)

/-- what all ends agree on stands beside the model's end -/
theorem merge_rel {ι ι2 : Inj} {s s1 : S} {w w2 : World} {new : Bool} {hm h1 : T AObj} {L : List (T AObj)} {nx1 : Nat} (hlo : s.lo ≤ s.nx) (hS : SRel P ι s w) (hS2 : SRel P ι2 s1 w2)
    (hF : Fm s.nx ι ⟨s.h, s.nx, bif new then s.nx else s.lo⟩ w ι2 s1 w2) (hnx : s1.nx = nx1) (hmem : s1.h ∈ h1 :: L)
    (hM : Mg h1 L s.nx (bif new then s.nx else 0) ((bif new then s.nx else 0) + (nx1 - (bif new then s.nx else 0))) s.h hm) : SRel P ι2 ⟨hm, nx1, s.lo⟩ w2 ∧ Fm s.nx ι s w ι2 ⟨hm, nx1, s.lo⟩ w2 := by
  have hnxle : s.nx ≤ nx1 := by have := hF.nx; simp only at this; omega
  generalize ha : (bif new then s.nx else 0) = a at hM
  have hab : a ≤ s.nx := by rw [← ha]; cases new <;> simp
  rw [show a + (nx1 - a) = nx1 by omega] at hM
  -- what lies below a was not written
  have hbelow : ∀ i, i < a → s1.h.get i = s.h.get i := by
    intro i hi
    refine hF.low i ?_
    rw [← ha] at hi
    cases new with
    | true => simpa using hi
    | false => simp at hi
  -- an object of hm
  have hob : ∀ i o, ι2 i ≠ none → hm.get i = some o → ∃ oj, s1.h.get i = some oj ∧ (o = oj ∨ (s.nx ≤ i ∧ ∃ c n e q st, oj = .blk ⟨c, n, e, some q, st⟩ ∧ o = .blk ⟨c, n, e, none, st⟩ ∧ hm.get q = none)) := by
    intro i o hi hg
    have hlt : i < nx1 := by
      rcases Nat.lt_or_ge i nx1 with x | x
      · exact x
      · exact absurd (hS2.fresh i (by omega)) hi
    rcases Nat.lt_or_ge i a with x | x
    · rw [hM.out i (.inl x), ← hbelow i x] at hg
      exact ⟨o, hg, .inl rfl⟩
    · obtain ⟨oj, q1, q2⟩ := hM.some i o x hlt hg _ hmem
      refine ⟨oj, q1, q2.imp id ?_⟩
      rintro ⟨y0, c, n, e, q, st, y1, y2, _, y3⟩
      exact ⟨y0, c, n, e, q, st, y1, y2, y3⟩
  -- the old ones
  have hold : ∀ i, i < s.nx → hm.get i = s1.h.get i := by
    intro i hi
    rcases Nat.lt_or_ge i a with x | x
    · rw [hM.out i (.inl x), hbelow i x]
    · cases hg : hm.get i with
      | none => rw [hM.none i x (by omega) hi hg _ hmem]
      | some o =>
        obtain ⟨oj, q1, q2⟩ := hM.some i o x (by omega) hg _ hmem
        rcases q2 with rfl | ⟨y0, _⟩
        · exact q1.symm
        · omega
  have hdead : ∀ {o oj : AObj}, (o = oj ∨ (∃ (c : T Value) (n : Nat) (e : TypeId) (q st : Nat), oj = .blk ⟨c, n, e, some q, st⟩ ∧ o = .blk ⟨c, n, e, none, st⟩)) → (Dead o ↔ Dead oj) ∧ (NotHole o ↔ NotHole oj) ∧ ∀ ι' l o', ORel P ι' l oj o' → ORel P ι' l o o' := by
    intro o oj h
    rcases h with rfl | ⟨c, n, e, q, st, rfl, rfl⟩
    · exact ⟨Iff.rfl, Iff.rfl, fun _ _ _ h => h⟩
    · refine ⟨Iff.rfl, Iff.rfl, fun ι' l o' h => ?_⟩
      cases h with
      | dead _ x => exact .dead _ x
      | blk a b c d => exact .blk a b c d
  have weak : ∀ {i : Nat} {o oj : AObj}, (o = oj ∨ (s.nx ≤ i ∧ ∃ c n e q st, oj = .blk ⟨c, n, e, some q, st⟩ ∧ o = .blk ⟨c, n, e, none, st⟩ ∧ hm.get q = none)) →
      (o = oj ∨ (∃ (c : T Value) (n : Nat) (e : TypeId) (q st : Nat), oj = .blk ⟨c, n, e, some q, st⟩ ∧ o = .blk ⟨c, n, e, none, st⟩)) := by
    rintro i o oj (h | ⟨_, c, n, e, q, st, h1, h2, _⟩)
    · exact .inl h
    · exact .inr ⟨c, n, e, q, st, h1, h2⟩
  refine ⟨⟨?_, fun id hi => hS2.fresh id (by simp only at hi; omega), hS2.bound, ?_, ?_⟩, ?_⟩
  · intro id l o hi hg
    obtain ⟨oj, q1, q2⟩ := hob id o (by rw [hi]; simp) hg
    obtain ⟨o', r1, r2⟩ := hS2.obj id l oj hi q1
    exact ⟨o', r1, (hdead (weak q2)).2.2 _ _ _ r2⟩
  · intro id1 id2 l1 l2 o1 o2 hne i1 i2 hbl g1 g2
    obtain ⟨oj1, q1, q2⟩ := hob id1 o1 (by rw [i1]; simp) g1
    obtain ⟨oj2, r1, r2⟩ := hob id2 o2 (by rw [i2]; simp) g2
    rcases hS2.alias id1 id2 l1 l2 oj1 oj2 hne i1 i2 hbl q1 r1 with x | x | x | x
    · exact .inl ((hdead (weak q2)).1.2 x)
    · exact .inr (.inl ((hdead (weak r2)).1.2 x))
    · rcases q2 with rfl | ⟨_, c, n, e, q, st, y1, y2, y3⟩
      · exact .inr (.inr (.inl x))
      · subst y1
        simp only [Par, Option.some.injEq] at x; subst x
        simp only at g2
        rw [y3] at g2; cases g2
    · rcases r2 with rfl | ⟨_, c, n, e, q, st, y1, y2, y3⟩
      · exact .inr (.inr (.inr x))
      · subst y1
        simp only [Par, Option.some.injEq] at x; subst x
        simp only at g1
        rw [y3] at g1; cases g1
  · intro id o q hg hi hd hp
    obtain ⟨oj, q1, q2⟩ := hob id o hi hg
    rcases q2 with rfl | ⟨_, c, n, e, q', st, y1, y2, y3⟩
    · obtain ⟨z1, z2⟩ := hS2.par id o q q1 hi hd hp
      refine ⟨z1, fun o' ho' => ?_⟩
      obtain ⟨oj', u1, u2⟩ := hob q o' z1 ho'
      obtain ⟨b, e1, e2⟩ := z2 oj' u1
      rcases u2 with rfl | ⟨_, c, n, e, q', st, y1, y2, y3⟩
      · exact ⟨b, e1, e2⟩
      · subst y2; rw [y1] at e1; cases e1
        exact ⟨_, rfl, e2⟩
    · subst y2; simp [Par] at hp
  · have hown : ∀ b, Owned ι2 ⟨hm, nx1, s.lo⟩ b → Owned ι2 s1 b := by
      rintro b ⟨id, l, o, a1, a2, a3, a4⟩
      obtain ⟨oj, q1, q2⟩ := hob id o (by rw [a1]; simp) a3
      exact ⟨id, l, oj, a1, a2, q1, (hdead (weak q2)).2.1.1 a4⟩
    refine ⟨hF.ext, ?_, ?_, hF.heap, fun b hb ho => hF.own b hb (hown b ho), ?_, ?_, ?_, rfl, hnxle, hF.size, hF.os, hF.out, hF.tape⟩
    · intro id hi hn
      obtain ⟨x, y⟩ := hF.keep id hi hn
      exact ⟨x, by show hm.get id = _; rw [hold id hi]; exact y⟩
    · intro id l hn hs
      rcases hF.new id l hn hs with x | ⟨id2, l2, o2, a0, a1, a2, a3, a4⟩
      · exact .inl x
      · refine .inr ⟨id2, l2, o2, ?_, a1, a2, a3, a4⟩
        simp only at a0
        cases new <;> simp at a0 <;> omega
    · rintro b hb ⟨id, l, o, a0, a1, a2, a3, a4⟩
      simp only at a0
      rcases Nat.lt_or_ge id s.nx with x | x
      · cases hi : ι id with
        | none => rw [(hF.keep id x hi).1] at a1; cases a1
        | some l3 =>
          have hl3 := hF.ext _ _ hi
          have hee : l3 = l := by rw [hl3] at a1; cases a1; rfl
          subst hee
          cases new with
          | true =>
            have hsame : s1.h.get id = s.h.get id := hF.low id (by simpa using x)
            refine ⟨id, l3, o, a0, hi, a2, ?_, a4⟩
            rw [← hsame, ← hold id x]; exact a3
          | false =>
            have h2 : OwnedL ι2 s1 b := ⟨id, l3, o, by have := hF.lo; simp at this; omega, hl3, a2, by rw [← hold id x]; exact a3, a4⟩
            obtain ⟨id5, l5, o5, c0, c1, c2, c3, c4⟩ := hF.ownL b hb h2
            exact ⟨id5, l5, o5, by simpa using c0, c1, c2, c3, c4⟩
      · obtain ⟨oj, q1, q2⟩ := hob id o (by rw [a1]; simp) a3
        have h2 : OwnedL ι2 s1 b := ⟨id, l, oj, by have := hF.lo; cases new <;> simp at this <;> omega, a1, a2, q1, (hdead (weak q2)).2.1.1 a4⟩
        obtain ⟨id5, l5, o5, c0, c1, c2, c3, c4⟩ := hF.ownL b hb h2
        exact ⟨id5, l5, o5, by cases new <;> simp at c0 <;> omega, c1, c2, c3, c4⟩
    · intro id hi hn
      show hm.get id = none
      rw [hold id hi]
      exact hF.absent id hi hn
    · intro id hi
      show hm.get id = s.h.get id
      have hlt : id < s.nx := by omega
      rw [hold id hlt]
      exact hF.low id (by cases new <;> simp <;> omega)

theorem leafV_eq {q : Fr × S} {v : Value} (h : leafV P q = some v) : ∃ fn nt g td d rn s, q = (⟨fn, nt, g, td, [], .returning, d, rn⟩, s) ∧ resV P fn g s = some v := by
  obtain ⟨⟨fn, nt, g, td, ds, md, d, rn⟩, s⟩ := q
  unfold leafV at h
  split at h
  · rename_i heq
    cases heq
    exact ⟨_, _, _, _, _, _, _, rfl, h⟩
  · cases h

theorem forkK_ok (hK : KnownOk P K w0) (hmix : P.follows .mixedOrders = true) (n : Nat) (new : Bool) (f : FuncId) : KOk P w0 (forkK P K n new f) f := by
  intro cs args s r hF ι w args' hini hS hlo hrel
  unfold forkK at hF
  cases he : enter P f args false with
  | none => simp [he] at hF
  | some fr =>
    simp only [he] at hF
    cases hr : runF P K n ⟨[fr], ⟨s.h, s.nx, bif new then s.nx else s.lo⟩⟩ with
    | none => simp [hr] at hF
    | some Lq =>
      cases Lq with
      | nil => simp [hr] at hF
      | cons q L =>
        simp only [hr] at hF
        cases hl : leafV P q with
        | none => simp [hl] at hF
        | some v0 =>
          simp only [hl] at hF
          cases hse : sameEnds P v0 q.2.nx L && Nat.ble s.nx q.2.nx with
          | false => rw [hse] at hF; cases hF
          | true =>
            rw [hse] at hF; simp only [cond_true] at hF
            simp only [Bool.and_eq_true, Nat.ble_eq] at hse
            revert hF
            cases hmg : mergeH q.2.h (heapsOf L) s.nx (Nat.sub q.2.nx (bif new then s.nx else 0)) (bif new then s.nx else 0) s.h with
            | none => intro hF; cases hF
            | some hm =>
              intro hF
              simp only [Option.some.injEq] at hF
              subst hF
              have hM := mergeH_spec _ _ _ _ hmg
              -- the run
              let s0 : S := ⟨s.h, s.nx, bif new then s.nx else s.lo⟩
              let B : Base := ⟨⟨[], [], some false, some (f, fr.nt, .normal)⟩, s.nx, cs⟩
              have hlo0 : s0.lo ≤ s0.nx := by show (bif new then s.nx else s.lo) ≤ s.nx; cases new <;> simp [hlo]
              have hfn : fr.fn = f := by
                unfold enter at he
                cases hi : finfo P f with
                | none => simp [hi] at he
                | some fi =>
                  obtain ⟨nt, c, rs⟩ := fi
                  simp only [hi] at he
                  cases hle : Nat.ble args.length nt with
                  | false => rw [hle] at he; cases he
                  | true => rw [hle] at he; simp only [cond_true, Option.some.injEq] at he; subst he; rfl
              have hS0 : SRel P ι s0 w := ⟨hS.obj, hS.fresh, hS.bound, hS.alias, hS.par⟩
              have hini0 : Ini w0 ι s0 w := ⟨hini.size, hini.same, hini.own, hini.out, hini.os, hini.tape, hini.pin⟩
              have hT0 := enter_ok (args' := args') he hrel s0 s.nx
              have hT1 : Top P ι s0 B.sf s.nx fr (Frame.enter P f args' .normal) :=
                ⟨hT0.fn, hT0.func, hT0.rnd, hT0.rk, ⟨hT0.kind.1, fun q hq => by cases hq; exact ⟨hfn, rfl, rfl⟩⟩, hT0.size, hT0.defers, hT0.mode, hT0.body, hT0.tmps⟩
              have hR : RSt P B w0 ι s.nx B.sf fr [] s0 (Frame.enter P f args' .normal) cs w := ⟨.base, hT1, hS0, Nat.le_refl _, hlo0, hini0⟩
              obtain ⟨q', hq', hpost⟩ := runF_ok hK hmix rfl n hR hr
              have hends : leafV P q' = some v0 ∧ q'.2.nx = q.2.nx := by
                rcases List.mem_cons.1 hq' with rfl | h
                · exact ⟨hl, rfl⟩
                · exact sameEnds_spec hse.1 q' h
              obtain ⟨fn1, nt1, g1, td1, d1, rn1, s1, rfl, hres⟩ := leafV_eq hends.1
              obtain ⟨ι1, top, w1, hd0, hm0, hst, hR1, hF1⟩ := hpost
              have hT := hR1.top
              obtain ⟨ff, v', q1, q2, q3⟩ := resV_ok hR1.srel (hT.tmps (by simp)) hres
              have hmode : top.mode = .returning := by
                have := hT.mode
                generalize top.mode = mm at this
                cases this; rfl
              have hdd : top.defers = [] := by
                have := hT.defers
                generalize top.defers = td at this
                cases this; rfl
              have hkd : top.kind = .normal := (hT.kind.1 false rfl).2
              have hmem : s1.h ∈ q.2.h :: heapsOf L := by
                rcases List.mem_cons.1 hq' with h | h
                · rw [← h]; simp
                · exact List.mem_cons_of_mem _ (heapsOf_mem h)
              obtain ⟨z1, z2⟩ := merge_rel (new := new) (hm := hm) hlo hS hR1.srel hF1 hends.2 hmem hM
              exact ⟨ι1, w1, v', q2, z1, z2, .returned v', w1, top, ⟨rfl, rfl⟩, hst, by rw [hT.fn]; exact (hT.kind.2 _ rfl).1, hmode, hdd, hkd, ff, by rw [hT.fn]; exact q1, q3⟩

end Go.AM
/- A call whose arguments and whose part of the memory are told: it is known by one run of its own. -/
namespace Go.AM
noncomputable section
variable {P : Program} {K : Known} {w0 : Start}

/-- how a call ends -/
inductive Ans where
  | ret (v : Value)
  | pan (t : TypeId) (v : Value)
def Ans.res (a : Ans) (s : S) : KRes := match a with
  | .ret v => .ret v s
  | .pan t v => .pan t v s
structure Shot where
  args : List Value
  nx : Nat
  pre : List (Nat × AObj)
  ans : Ans
  nx' : Nat
  post : List (Nat × AObj)

def ofL : List (Nat × AObj) → T AObj → T AObj
  | [], t => t
  | (i, o) :: l, t => ofL l (t.set i o)
def hasId (i : Nat) : List (Nat × AObj) → Bool
  | [] => false
  | (j, _) :: l => Nat.beq i j || hasId i l
def allIn (h : T AObj) : List (Nat × AObj) → Bool
  | [] => true
  | (i, o) :: l => (match h.get i with | some o' => eqO o' o | none => false) && allIn h l
def sameArgs : List Value → List Value → Bool
  | [], [] => true
  | a :: l, b :: m => sameV 60 a b && sameArgs l m
  | _, _ => false
def beqB (a b : Bool) : Bool := bif a then b else !b
/-- no row of the part lies over one beside it, nor the other way round -/
def crossOk (pre : List (Nat × AObj)) (h : T AObj) : Nat → Nat → Bool
  | 0, _ => true
  | n + 1, i => (match h.get i with
    | some (.blk ⟨_, _, _, some p, st⟩) => Nat.ble 2 st || beqB (hasId i pre) (hasId p pre)
    | _ => true) && crossOk pre h n (Nat.succ i)
def crossC (pre : List (Nat × AObj)) (h : T AObj) (n : Nat) : Bool := match pre with
  | [] => true
  | p => crossOk p h n 0
theorem crossOk_nil (h : T AObj) : ∀ n i, crossOk [] h n i = true
  | 0, _ => rfl
  | n + 1, i => by
    simp only [crossOk, crossOk_nil h n, Bool.and_true]
    split
    · simp [hasId, beqB]
    · rfl
theorem crossC_ok {pre : List (Nat × AObj)} {h : T AObj} {n : Nat} (hc : crossC pre h n = true) : crossOk pre h n 0 = true := by
  cases pre with
  | nil => exact crossOk_nil h n 0
  | cons a l => exact hc
def clr : Nat → Nat → T AObj → T AObj
  | 0, _, h => h
  | n + 1, i, h => clr n (Nat.succ i) (T.setF (Nat.succ i) h i none)
def shotK (sh : Shot) : List Value → S → Option KRes := fun args s =>
  match sh with
  | ⟨args0, nx, pre, a, nx', post⟩ => bif sameArgs args0 args && Nat.beq s.nx nx && Nat.beq s.lo 0 && allIn s.h pre && crossC pre s.h nx then
      some (a.res ⟨ofL post (clr (Nat.sub nx' nx) nx s.h), nx', 0⟩) else none

def noHole : AObj → Bool
  | .hole => false
  | _ => true
def parIn (post : List (Nat × AObj)) : AObj → Bool
  | .blk ⟨_, _, _, some p, st⟩ => Nat.ble 2 st || hasId p post
  | _ => true
def preOk (nx : Nat) (post : List (Nat × AObj)) : List (Nat × AObj) → Bool
  | [] => true
  | (i, _) :: l => Nat.blt i nx && hasId i post && preOk nx post l
def postOk (nx nx' : Nat) (pre post : List (Nat × AObj)) : List (Nat × AObj) → Bool
  | [] => true
  | (i, o) :: l => (hasId i pre || Nat.ble nx i) && noHole o && parIn post o && postOk nx nx' pre post l
def shotFrame (sh : Shot) : Bool :=
  match sh with
  | ⟨_, nx, pre, _, nx', post⟩ => preOk nx post pre && postOk nx nx' pre post post && Nat.ble nx nx'

/-- to the lowest frame's end -/
def runE (P : Program) (K : Known) (n : Nat) (st : St) : Res :=
  match runM P K n st with
  | .idle fr s => match endFr fr with
    | some fr => runM P K 2000 ⟨[fr], s⟩
    | none => .bad 501
  | r => r
/-- how the lowest frame ends -/
def leafR (P : Program) (fr : Fr) (s : S) : Option Ans :=
  match fr with
  | ⟨fn, _, g, _, [], .returning, _, _⟩ => match resV P fn g s with
    | some v => some (.ret v)
    | none => none
  | ⟨_, _, _, _, [], .pan [⟨t, v, false⟩], _, _⟩ => some (.pan t v)
  | _ => none
def sameAns : Ans → Ans → Bool
  | .ret v, .ret v' => sameV 60 v v'
  | .pan t v, .pan t' v' => Nat.beq t t' && sameV 60 v v'
  | _, _ => false
def shotRun (P : Program) (K : Known) (n : Nat) (f : FuncId) (sh : Shot) : Bool :=
  match sh with
  | ⟨args, nx, pre, a, nx', post⟩ => preOk nx post pre && Nat.ble nx nx' &&
    match enter P f args false with
    | some fr => match runE P K n ⟨[fr], ⟨ofL pre .leaf, nx, 0⟩⟩ with
      | .stop fr s2 => (match leafR P fr s2 with | some a' => sameAns a' a | none => false) && Nat.beq s2.nx nx' && allIn s2.h post
      | _ => false
    | none => false

theorem ofL_get : ∀ (l : List (Nat × AObj)) (t : T AObj) (i : Nat), (hasId i l = true ∧ ∃ o, (ofL l t).get i = some o ∧ (i, o) ∈ l) ∨ (hasId i l = false ∧ (ofL l t).get i = t.get i)
  | [], t, i => .inr ⟨rfl, rfl⟩
  | (j, o) :: l, t, i => by
    rcases ofL_get l (t.set j o) i with ⟨h1, o', h2, h3⟩ | ⟨h1, h2⟩
    · exact .inl ⟨by simp [hasId, h1], o', h2, by simp [h3]⟩
    · by_cases e : i = j
      · subst e
        refine .inl ⟨by simp [hasId], o, ?_, by simp⟩
        show (ofL l (t.set i o)).get i = some o
        rw [h2, T.get_set, if_pos rfl]
      · refine .inr ⟨?_, ?_⟩
        · simp only [hasId, h1, Bool.or_false]
          cases hb : Nat.beq i j with
          | false => rfl
          | true => exact absurd (Nat.eq_of_beq_eq_true hb) e
        · show (ofL l (t.set j o)).get i = t.get i
          rw [h2, T.get_set, if_neg e]
theorem ofL_same : ∀ (l : List (Nat × AObj)) (t t' : T AObj) (i : Nat), hasId i l = true → (ofL l t).get i = (ofL l t').get i
  | [], _, _, _, h => by cases h
  | (j, o) :: l, t, t', i, h => by
    cases hh : hasId i l with
    | true => exact ofL_same l _ _ i hh
    | false =>
      simp only [hasId, hh, Bool.or_false] at h
      have := Nat.eq_of_beq_eq_true h; subst this
      have key : ∀ u : T AObj, (ofL l (u.set i o)).get i = some o := by
        intro u
        rcases ofL_get l (u.set i o) i with ⟨h1, _⟩ | ⟨_, h2⟩
        · rw [hh] at h1; cases h1
        · rw [h2, T.get_set, if_pos rfl]
      show (ofL l (t.set i o)).get i = (ofL l (t'.set i o)).get i
      rw [key, key]
theorem allIn_spec {h : T AObj} : ∀ {l : List (Nat × AObj)}, allIn h l = true → ∀ q ∈ l, h.get q.1 = some q.2
  | [], _, q, hq => by simp at hq
  | (i, o) :: l, hl, q, hq => by
    simp only [allIn, Bool.and_eq_true] at hl
    rcases List.mem_cons.1 hq with rfl | hq
    · have h1 := hl.1
      cases hg : h.get i with
      | none => simp [hg] at h1
      | some o' => simp only [hg] at h1; rw [eqO_eq _ _ h1]
    · exact allIn_spec hl.2 q hq
theorem sameArgs_eq : ∀ {l m : List Value}, sameArgs l m = true → l = m
  | [], [], _ => rfl
  | a :: l, b :: m, h => by
    simp only [sameArgs, Bool.and_eq_true] at h
    rw [sameV_eq _ _ _ h.1, sameArgs_eq h.2]
  | [], _ :: _, h => by cases h
  | _ :: _, [], h => by cases h
theorem beqB_eq {a b : Bool} (h : beqB a b = true) : a = b := by cases a <;> cases b <;> simp_all [beqB]
theorem crossOk_spec {pre : List (Nat × AObj)} {h : T AObj} : ∀ {n i : Nat}, crossOk pre h n i = true → ∀ j, i ≤ j → j < i + n → ∀ c m e p st, h.get j = some (.blk ⟨c, m, e, some p, st⟩) → st < 2 → hasId j pre = hasId p pre
  | 0, i, _, j, h1, h2, _, _, _, _, _, _, _ => by omega
  | n + 1, i, hc, j, h1, h2, c, m, e, p, st, hg, hst => by
    simp only [crossOk, Bool.and_eq_true] at hc
    by_cases hj : j = i
    · subst hj
      have := hc.1
      simp only [hg, Bool.or_eq_true, Nat.ble_eq] at this
      rcases this with x | x
      · omega
      · exact beqB_eq x
    · exact crossOk_spec hc.2 j (by omega) (by omega) c m e p st hg hst
theorem clr_get : ∀ (n i : Nat) (h : T AObj) (j : Nat), (clr n i h).get j = if i ≤ j ∧ j < i + n then none else h.get j
  | 0, i, h, j => by rw [if_neg (by omega)]; rfl
  | n + 1, i, h, j => by
    simp only [clr]
    rw [clr_get n (Nat.succ i), T.get_setF _ _ _ _ _ (Nat.lt_succ_self i)]
    by_cases h1 : i ≤ j ∧ j < i + (n + 1)
    · rw [if_pos h1]
      by_cases h2 : Nat.succ i ≤ j ∧ j < Nat.succ i + n
      · rw [if_pos h2]
      · rw [if_neg h2, if_pos (by omega)]
    · rw [if_neg h1, if_neg (by omega), if_neg (by omega)]
theorem preOk_spec {nx : Nat} {post : List (Nat × AObj)} : ∀ {l : List (Nat × AObj)}, preOk nx post l = true → ∀ i, hasId i l = true → i < nx ∧ hasId i post = true
  | [], _, i, hi => by cases hi
  | (j, o) :: l, hl, i, hi => by
    simp only [preOk, Bool.and_eq_true, Nat.blt_eq] at hl
    simp only [hasId, Bool.or_eq_true] at hi
    rcases hi with hi | hi
    · have := Nat.eq_of_beq_eq_true hi; subst this; exact hl.1
    · exact preOk_spec hl.2 i hi
theorem postOk_spec {nx nx' : Nat} {pre post : List (Nat × AObj)} : ∀ {l : List (Nat × AObj)}, postOk nx nx' pre post l = true → ∀ q ∈ l, (hasId q.1 pre = true ∨ nx ≤ q.1) ∧ noHole q.2 = true ∧ parIn post q.2 = true
  | [], _, q, hq => by simp at hq
  | (j, o) :: l, hl, q, hq => by
    simp only [postOk, Bool.and_eq_true, Bool.or_eq_true, Nat.ble_eq] at hl
    rcases List.mem_cons.1 hq with rfl | hq
    · exact ⟨hl.1.1.1, hl.1.1.2, hl.1.2⟩
    · exact postOk_spec hl.2 q hq

theorem alive_not {o : AObj} (h : noHole o = true) (hd : ¬ Dead o) : NotHole o := by
  cases o with
  | blk b => simp only [Dead] at hd; simp only [NotHole]; omega
  | hole => cases h
  | _ => trivial

def shPre (sh : Shot) : S := ⟨ofL sh.pre .leaf, sh.nx, 0⟩
def shPost (sh : Shot) : S := ⟨ofL sh.post .leaf, sh.nx', 0⟩
/-- the call does as is told -/
def ShotOk (P : Program) (w0 : Start) (f : FuncId) (sh : Shot) : Prop :=
  ∀ (cs : List Frame) ι w (args' : Array Value), Ini w0 ι (shPre sh) w → SRel P ι (shPre sh) w → VRelL ι sh.args args'.toList → KPost P f ι (shPre sh) w args' cs (sh.ans.res (shPost sh))

theorem runE_ok {B : Base} (hK : KnownOk P K w0) (hmix : P.follows .mixedOrders = true) (hBK : B.sf.K = []) (n : Nat) {ι : Inj} {hb : Nat} {sf : Suf} {fr : Fr} {rest : List Fr} {s : S} {top : Frame} {cs : List Frame} {w : World}
    (hR : RSt P B w0 ι hb sf fr rest s top cs w) : ResPost' P B w0 ι s w (lone top cs w) (match runE P K n ⟨fr :: rest, s⟩ with | .next _ => .bad 0 | r => r) := by
  have h1 := runM_ok hK hmix n hR
  unfold runE
  cases hr : runM P K n ⟨fr :: rest, s⟩ with
  | next _ => trivial
  | stop _ _ => rw [hr] at h1; exact h1
  | upd _ _ _ _ _ => rw [hr] at h1; exact h1
  | bad _ => trivial
  | idle fr1 s1 =>
    rw [hr] at h1
    simp only []
    cases he : endFr fr1 with
    | none => trivial
    | some fr2 =>
      simp only []
      obtain ⟨ι1, top1, w1, _, _, k1, k2, k3⟩ := h1
      obtain ⟨ι2, hb2, sf2, fr3, rest3, top3, cs3, w3, e3, j1, j2, j3⟩ := idle_end k2 hBK he
      simp only [List.cons.injEq] at e3
      obtain ⟨rfl, rfl⟩ := e3
      exact .of_steps k1 k3 (.of_steps j1 j3 (runM_ok hK hmix 2000 j2))

theorem sameAns_eq {a b : Ans} (h : sameAns a b = true) : a = b := by
  cases a with
  | ret v => cases b with
    | ret v' => simp only [sameAns] at h; rw [sameV_eq _ _ _ h]
    | pan _ _ => cases h
  | pan t v => cases b with
    | ret _ => cases h
    | pan t' v' => simp only [sameAns, Bool.and_eq_true, Nat.beq_eq] at h; rw [h.1, sameV_eq _ _ _ h.2]

/-- a run of its own -/
theorem run_shot {sh : Shot} {n : Nat} {f : FuncId} (hK : KnownOk P K w0) (hmix : P.follows .mixedOrders = true) (hrun : shotRun P K n f sh = true) : ShotOk P w0 f sh := by
  obtain ⟨args0, nx, pre, a0, nx', post⟩ := sh
  intro cs ι w args' hini hS hrel
  simp only [shPre, shPost] at hini hS hrel ⊢
  simp only [shotRun, Bool.and_eq_true, Nat.ble_eq] at hrun
  obtain ⟨⟨hpre, hnxle⟩, hrun⟩ := hrun
  have hpp : ∀ i, hasId i pre = true → i < nx ∧ hasId i post = true := preOk_spec hpre
  cases he : enter P f args0 false with
  | none => simp [he] at hrun
  | some fr =>
    simp only [he] at hrun
    cases hr : runE P K n ⟨[fr], ⟨ofL pre .leaf, nx, 0⟩⟩ with
    | next _ => simp [hr] at hrun
    | idle _ _ => simp [hr] at hrun
    | upd _ _ _ _ _ => simp [hr] at hrun
    | bad _ => simp [hr] at hrun
    | stop fr1 s2 =>
      simp only [hr, Bool.and_eq_true, Nat.beq_eq] at hrun
      obtain ⟨⟨hleaf, rfl⟩, hin⟩ := hrun
      cases hl : leafR P fr1 s2 with
      | none => simp [hl] at hleaf
      | some a1 =>
        simp only [hl] at hleaf
        have := sameAns_eq hleaf; subst this
        have hIn := allIn_spec hin
        let sR : S := ⟨ofL pre .leaf, nx, 0⟩
        let B : Base := ⟨⟨[], [], some false, some (f, fr.nt, .normal)⟩, nx, cs⟩
        have hfn : fr.fn = f := by
          unfold enter at he
          cases hi : finfo P f with
          | none => simp [hi] at he
          | some fi =>
            obtain ⟨nt, c, rs⟩ := fi
            simp only [hi] at he
            cases hle : Nat.ble args0.length nt with
            | false => rw [hle] at he; cases he
            | true => rw [hle] at he; simp only [cond_true, Option.some.injEq] at he; subst he; rfl
        have hT0 := enter_ok (args' := args') he hrel sR nx
        have hT1 : Top P ι sR B.sf nx fr (Frame.enter P f args' .normal) :=
          ⟨hT0.fn, hT0.func, hT0.rnd, hT0.rk, ⟨hT0.kind.1, fun q hq => by cases hq; exact ⟨hfn, rfl, rfl⟩⟩, hT0.size, hT0.defers, hT0.mode, hT0.body, hT0.tmps⟩
        have hR : RSt P B w0 ι nx B.sf fr [] sR (Frame.enter P f args' .normal) cs w := ⟨.base, hT1, hS, Nat.le_refl _, Nat.zero_le _, hini⟩
        have hrm := runE_ok hK hmix rfl n hR
        have hr' : runE P K n ⟨[fr], sR⟩ = .stop fr1 s2 := hr
        rw [hr'] at hrm
        obtain ⟨ι2, top, w2, hd0, hm0, hst, hR2, hF⟩ := hrm
        have hT := hR2.top
        have hS2 := hR2.srel
        -- what is told of the memory
        have hsub : ∀ i o, (ofL post .leaf).get i = some o → s2.h.get i = some o := by
          intro i o hg
          rcases ofL_get post .leaf i with ⟨_, o', h2, h3⟩ | ⟨_, h2⟩
          · rw [hg] at h2; cases h2; exact hIn _ h3
          · rw [hg] at h2; cases h2
        have hnoid : ∀ i, hasId i post = false → (ofL post .leaf).get i = none ∧ (ofL pre .leaf).get i = none := by
          intro i hi
          refine ⟨?_, ?_⟩
          · rcases ofL_get post .leaf i with ⟨h1, _⟩ | ⟨_, h2⟩
            · rw [hi] at h1; cases h1
            · rw [h2]; rfl
          · rcases ofL_get pre .leaf i with ⟨h1, _⟩ | ⟨_, h2⟩
            · rw [(hpp i h1).2] at hi; cases hi
            · rw [h2]; rfl
        have hSP : SRel P ι2 ⟨ofL post .leaf, s2.nx, 0⟩ w2 :=
          ⟨fun id l o a b => hS2.obj id l o a (hsub id o b), hS2.fresh, hS2.bound, fun i1 i2 l1 l2 o1 o2 a b c d e g => hS2.alias i1 i2 l1 l2 o1 o2 a b c d (hsub _ _ e) (hsub _ _ g),
            fun id o p a b c d => ⟨(hS2.par id o p (hsub id o a) b c d).1, fun o' ho' => (hS2.par id o p (hsub id o a) b c d).2 o' (hsub p o' ho')⟩⟩
        have hFP : Fm nx ι sR w ι2 ⟨ofL post .leaf, s2.nx, 0⟩ w2 := by
          refine ⟨hF.ext, ?_, hF.new, hF.heap, ?_, ?_, ?_, fun id hi => absurd hi (Nat.not_lt_zero _), rfl, hnxle, hF.size, hF.os, hF.out, hF.tape⟩
          · intro id hi hn
            obtain ⟨x, y⟩ := hF.keep id hi hn
            refine ⟨x, ?_⟩
            show (ofL post .leaf).get id = (ofL pre .leaf).get id
            cases hh : hasId id post with
            | false => obtain ⟨u1, u2⟩ := hnoid id hh; rw [u1, u2]
            | true =>
              rcases ofL_get post .leaf id with ⟨_, o', h2, h3⟩ | ⟨h1, _⟩
              · rw [h2, ← hIn _ h3]; exact y
              · rw [hh] at h1; cases h1
          · rintro b hb ⟨id, l, o, a1, a2, a3, a4⟩
            exact hF.own b hb ⟨id, l, o, a1, a2, hsub id o a3, a4⟩
          · rintro b hb ⟨id, l, o, a0, a1, a2, a3, a4⟩
            exact hF.ownL b hb ⟨id, l, o, by have := hF.lo; simp only [sR] at this; omega, a1, a2, hsub id o a3, a4⟩
          · intro id hi hn
            have := hF.absent id hi hn
            show (ofL post .leaf).get id = none
            cases hg : (ofL post .leaf).get id with
            | none => rfl
            | some o => rw [hsub id o hg] at this; cases this
        have hdd : top.defers = [] := by
          have := hT.defers
          have hDsf : B.sf.D = [] := rfl
          rw [hDsf, hd0] at this
          generalize top.defers = td at this
          cases this; rfl
        have hkd : top.kind = .normal := (hT.kind.1 false rfl).2
        have hfnt : top.fn = f := by rw [hT.fn]; exact (hT.kind.2 _ rfl).1
        -- how it ended
        unfold leafR at hl
        split at hl
        · rename_i fn1 nt1 g1 td1 d1 rn1
          cases hv : resV P fn1 g1 s2 with
          | none => simp [hv] at hl
          | some v =>
            simp only [hv, Option.some.injEq] at hl; subst hl
            obtain ⟨ff, v', q1, q2, q3⟩ := resV_ok hS2 (hT.tmps (by simp)) hv
            have hmode : top.mode = .returning := by
              have := hT.mode
              generalize top.mode = mm at this
              cases this; rfl
            exact ⟨ι2, w2, v', q2, hSP, hFP, .returned v', w2, top, ⟨rfl, rfl⟩, hst, hfnt, hmode, hdd, hkd, ff, by rw [hT.fn]; exact q1, q3⟩
        · rename_i fn1 nt1 g1 td1 t v d1 rn1
          simp only [Option.some.injEq] at hl; subst hl
          obtain ⟨v', hv', hmode⟩ : ∃ v', VRel ι2 v v' ∧ top.mode = .panicking [{ v := .iface t v', recovered := false, goexit := false }] := by
            have := hT.mode
            generalize top.mode = mm at this
            cases this with
            | pan hp =>
              cases hp with
              | cons hp1 hp2 => cases hp2; exact ⟨_, hp1, rfl⟩
          obtain ⟨ff, hff⟩ := hT.func
          exact ⟨ι2, w2, v', hv', hSP, hFP, .panicked _, w2, top, ⟨rfl, rfl⟩, hst, hfnt, hmode, hdd, ff, by rw [hT.fn]; exact hff⟩
        · cases hl

/-- what is beside the part stands -/
theorem frame_shot {nx nx' : Nat} {pre post : List (Nat × AObj)} {s : S} (hall : allIn s.h pre = true) (hcross : crossOk pre s.h s.nx 0 = true) (hnx : s.nx = nx) (hlo0 : s.lo = 0)
    (hpre : preOk nx post pre = true) (hpost : postOk nx nx' pre post post = true) (hnxle : nx ≤ nx') {ι ι2 : Inj} {w w2 : World} (hS : SRel P ι s w) (hS2 : SRel P ι2 ⟨ofL post .leaf, nx', 0⟩ w2)
    (hF : Fm nx ι ⟨ofL pre .leaf, nx, 0⟩ w ι2 ⟨ofL post .leaf, nx', 0⟩ w2) :
    SRel P ι2 ⟨ofL post (clr (Nat.sub nx' nx) nx s.h), nx', 0⟩ w2 ∧ Fm s.nx ι s w ι2 ⟨ofL post (clr (Nat.sub nx' nx) nx s.h), nx', 0⟩ w2 := by
  subst hnx
  let s2 : S := ⟨ofL post .leaf, nx', 0⟩
  have hnx2 : s2.nx = nx' := rfl
  -- the part
  have hAll := allIn_spec hall
  have hPost := postOk_spec hpost
  let sR : S := ⟨ofL pre .leaf, s.nx, 0⟩
  have hRget : ∀ i o, sR.h.get i = some o → hasId i pre = true ∧ s.h.get i = some o := by
    intro i o hg
    rcases ofL_get pre .leaf i with ⟨h1, o', h2, h3⟩ | ⟨h1, h2⟩
    · have : sR.h.get i = some o' := h2
      rw [hg] at this; cases this
      exact ⟨h1, hAll _ h3⟩
    · have : sR.h.get i = (T.leaf : T AObj).get i := h2
      rw [hg] at this; cases this
  have hRhas : ∀ i, hasId i pre = true → ∃ o, sR.h.get i = some o ∧ s.h.get i = some o := by
    intro i hi
    rcases ofL_get pre .leaf i with ⟨h1, o', h2, h3⟩ | ⟨h1, h2⟩
    · exact ⟨o', h2, hAll _ h3⟩
    · rw [hi] at h1; cases h1
  have hSR : SRel P ι sR w := by
    refine ⟨fun id l o a b => hS.obj id l o a (hRget id o b).2, hS.fresh, hS.bound, fun id1 id2 l1 l2 o1 o2 a b c d e f => hS.alias id1 id2 l1 l2 o1 o2 a b c d (hRget _ _ e).2 (hRget _ _ f).2, ?_⟩
    intro id o p a b c d
    obtain ⟨x, y⟩ := hS.par id o p (hRget id o a).2 b c d
    exact ⟨x, fun o' ho' => y o' (hRget p o' ho').2⟩
  have hRown : ∀ b, Owned ι sR b → Owned ι s b := by
    rintro b ⟨id, l, o, a1, a2, a3, a4⟩
    exact ⟨id, l, o, a1, a2, (hRget id o a3).2, a4⟩
  have hRownL : ∀ b, OwnedL ι sR b → OwnedL ι s b := by
    rintro b ⟨id, l, o, a0, a1, a2, a3, a4⟩
    exact ⟨id, l, o, by omega, a1, a2, (hRget id o a3).2, a4⟩
  have hFlo : s2.lo = 0 := rfl
  -- the state behind it
  have hfin : ∀ i, (hasId i post = true ∧ ∃ o, (ofL post (clr (Nat.sub nx' s.nx) s.nx s.h)).get i = some o ∧ s2.h.get i = some o ∧ noHole o = true ∧ parIn post o = true ∧ (hasId i pre = true ∨ s.nx ≤ i)) ∨
      (hasId i post = false ∧ (ofL post (clr (Nat.sub nx' s.nx) s.nx s.h)).get i = if s.nx ≤ i ∧ i < nx' then none else s.h.get i) := by
    intro i
    rcases ofL_get post (clr (Nat.sub nx' s.nx) s.nx s.h) i with ⟨h1, o, h2, h3⟩ | ⟨h1, h2⟩
    · exact .inl ⟨h1, o, h2, by rw [← h2]; exact ofL_same post _ _ i h1, (hPost _ h3).2.1, (hPost _ h3).2.2, (hPost _ h3).1⟩
    · refine .inr ⟨h1, ?_⟩
      rw [h2, clr_get]
      have : s.nx + Nat.sub nx' s.nx = nx' := by show s.nx + (nx' - s.nx) = nx'; omega
      rw [this]
  generalize ofL post (clr (Nat.sub nx' s.nx) s.nx s.h) = hm at hfin ⊢
  have hpp : ∀ i, hasId i pre = true → i < s.nx ∧ hasId i post = true := preOk_spec hpre
  -- an object is of the part (or new), or beside it
  have hob : ∀ i o, ι2 i ≠ none → hm.get i = some o → (hasId i post = true ∧ s2.h.get i = some o ∧ noHole o = true ∧ parIn post o = true ∧ (hasId i pre = true ∨ s.nx ≤ i)) ∨ (hasId i post = false ∧ i < s.nx ∧ s.h.get i = some o ∧ ι i = ι2 i) := by
    intro i o hi hg
    rcases hfin i with ⟨h1, o', h2, h3, h4, h5, h6⟩ | ⟨h1, h2⟩
    · rw [hg] at h2; cases h2; exact .inl ⟨h1, h3, h4, h5, h6⟩
    · rw [hg] at h2
      by_cases hh : s.nx ≤ i ∧ i < nx'
      · rw [if_pos hh] at h2; cases h2
      · rw [if_neg hh] at h2
        have hlt : i < s.nx := by
          rcases Nat.lt_or_ge i s.nx with x | x
          · exact x
          · exact absurd (hS2.fresh i (by show nx' ≤ i; omega)) hi
        refine .inr ⟨h1, hlt, h2.symm, ?_⟩
        cases hii : ι i with
        | none => rw [(hF.keep i hlt hii).1]
        | some l => rw [hF.ext _ _ hii]
  have hlive : ∀ id1 id2 l1 l2 o1 o2, ι2 id1 = some l1 → ι2 id2 = some l2 → l1.blk = l2.blk → hasId id1 post = true → s2.h.get id1 = some o1 → noHole o1 = true →
      hasId id2 post = false → id2 < s.nx → s.h.get id2 = some o2 → ι id2 = some l2 → Dead o1 ∨ Dead o2 := by
    intro id1 id2 l1 l2 o1 o2 i1 i2 hbl p1 g1' nh1 p2 lt2 g2 ii2
    by_cases hd : Dead o1
    · exact .inl hd
    · right
      have ho1 : Owned ι2 s2 l1.blk := ⟨id1, l1, o1, i1, rfl, g1', alive_not nh1 hd⟩
      have hltb : l1.blk < w.heap.size := by rw [hbl]; exact hS.bound _ _ ii2
      obtain ⟨id3, l3, o3, a1, a2, a3, a4⟩ := hF.own _ hltb ho1
      obtain ⟨b1, b2⟩ := hRget id3 o3 a3
      have hne : id3 ≠ id2 := by
        intro e; subst e
        rw [(hpp _ b1).2] at p2; cases p2
      have hd3 : ¬ Dead o3 := fun x => dead_not x a4
      rcases hS.alias id3 id2 l3 l2 o3 o2 hne a1 ii2 (by rw [a2, hbl]) b2 g2 with x | x | x | x
      · exact absurd x hd3
      · exact x
      · exfalso
        cases o3 with
        | blk bb =>
          obtain ⟨c, m, e, q, st⟩ := bb
          simp only [Par] at x; subst x
          have h3lt : id3 < s.nx := (hpp _ b1).1
          have := crossOk_spec hcross id3 (Nat.zero_le _) (by omega) c m e id2 st b2 (by simp only [Dead] at hd3; omega)
          rw [b1] at this
          rw [(hpp _ this.symm).2] at p2; cases p2
        | _ => simp [Par] at x
      · by_cases hd2 : Dead o2
        · exact hd2
        · exfalso
          cases o2 with
          | blk bb =>
            obtain ⟨c, m, e, q, st⟩ := bb
            simp only [Par] at x; subst x
            have := crossOk_spec hcross id2 (Nat.zero_le _) (by omega) c m e id3 st g2 (by simp only [Dead] at hd2; omega)
            rw [b1] at this
            rw [(hpp _ this).2] at p2; cases p2
          | _ => simp [Par] at x
  have hSf : SRel P ι2 ⟨hm, nx', 0⟩ w2 := by
    refine ⟨?_, fun id hi => hS2.fresh id (by simp only at hi; omega), hS2.bound, ?_, ?_⟩
    · intro id l o hi hg
      rcases hob id o (by rw [hi]; simp) hg with ⟨_, h2, _, _, _⟩ | ⟨h1, h2, h3, h4⟩
      · exact hS2.obj id l o hi h2
      · rw [hi] at h4
        obtain ⟨o', r1, r2⟩ := hS.obj id l o h4 h3
        by_cases hd : Dead o
        · cases o with
          | blk bb =>
            obtain ⟨c, m, e, q, st⟩ := bb
            obtain ⟨o2, x, _⟩ : ∃ o2, w2.heap[l.blk]? = some o2 ∧ True := by
              have := hS2.bound _ _ hi
              exact ⟨w2.heap[l.blk], by rw [Array.getElem?_eq_getElem this], trivial⟩
            exact ⟨o2, x, .dead _ hd⟩
          | _ => simp [Dead] at hd
        · have hno : ¬ Owned ι sR l.blk := by
            rintro ⟨id3, l3, o3, a1, a2, a3, a4⟩
            obtain ⟨b1, b2⟩ := hRget id3 o3 a3
            have hne : id3 ≠ id := by
              intro e; subst e
              rw [(hpp _ b1).2] at h1; cases h1
            have hd3 : ¬ Dead o3 := fun x => dead_not x a4
            rcases hS.alias id3 id l3 l o3 o hne a1 h4 a2 b2 h3 with x | x | x | x
            · exact hd3 x
            · exact hd x
            · cases o3 with
              | blk bb =>
                obtain ⟨c, m, e, q, st⟩ := bb
                simp only [Par] at x; subst x
                have h3lt : id3 < s.nx := (hpp _ b1).1
                have := crossOk_spec hcross id3 (Nat.zero_le _) (by omega) c m e id st b2 (by simp only [Dead] at hd3; omega)
                rw [b1] at this
                rw [(hpp _ this.symm).2] at h1; cases h1
              | _ => simp [Par] at x
            · cases o with
              | blk bb =>
                obtain ⟨c, m, e, q, st⟩ := bb
                simp only [Par] at x; subst x
                have := crossOk_spec hcross id (Nat.zero_le _) (by omega) c m e id3 st h3 (by simp only [Dead] at hd; omega)
                rw [b1] at this
                rw [(hpp _ this).2] at h1; cases h1
              | _ => simp [Par] at x
          exact ⟨o', by rw [hF.heap _ (hS.bound _ _ h4) hno]; exact r1, r2.mono hF.ext⟩
    · intro id1 id2 l1 l2 o1 o2 hne i1 i2 hbl g1' g2'
      rcases hob id1 o1 (by rw [i1]; simp) g1' with ⟨p1, a2, a3, a4, a5⟩ | ⟨p1, a2, a3, a4⟩
      · rcases hob id2 o2 (by rw [i2]; simp) g2' with ⟨p2, b2, b3, b4, b5⟩ | ⟨p2, b2, b3, b4⟩
        · exact hS2.alias id1 id2 l1 l2 o1 o2 hne i1 i2 hbl a2 b2
        · rcases hlive id1 id2 l1 l2 o1 o2 i1 i2 hbl p1 a2 a3 p2 b2 b3 (by rw [b4, i2]) with x | x
          · exact .inl x
          · exact .inr (.inl x)
      · rcases hob id2 o2 (by rw [i2]; simp) g2' with ⟨p2, b2, b3, b4, b5⟩ | ⟨p2, b2, b3, b4⟩
        · rcases hlive id2 id1 l2 l1 o2 o1 i2 i1 hbl.symm p2 b2 b3 p1 a2 a3 (by rw [a4, i1]) with x | x
          · exact .inr (.inl x)
          · exact .inl x
        · exact hS.alias id1 id2 l1 l2 o1 o2 hne (by rw [a4, i1]) (by rw [b4, i2]) hbl a3 b3
    · intro id o p hg hi hd hp
      rcases hob id o hi hg with ⟨p1, a2, a3, a4, a5⟩ | ⟨p1, a2, a3, a4⟩
      · obtain ⟨z1, z2⟩ := hS2.par id o p a2 hi hd hp
        refine ⟨z1, fun o' ho' => ?_⟩
        have hpin : hasId p post = true := by
          cases o with
          | blk bb =>
            obtain ⟨c, m, e, q, st⟩ := bb
            simp only [Par] at hp; subst hp
            simp only [parIn, Bool.or_eq_true, Nat.ble_eq] at a4
            rcases a4 with x | x
            · exact absurd x hd
            · exact x
          | _ => simp [Par] at hp
        rcases hob p o' z1 ho' with ⟨_, b2, _⟩ | ⟨p2, _⟩
        · exact z2 o' b2
        · rw [hpin] at p2; cases p2
      · obtain ⟨z1, z2⟩ := hS.par id o p a3 (by rw [a4]; exact hi) hd hp
        obtain ⟨lp, hlp⟩ := Option.ne_none_iff_exists'.1 z1
        refine ⟨by rw [hF.ext _ _ hlp]; simp, fun o' ho' => ?_⟩
        have hpre0 : hasId id pre = hasId p pre := by
          cases o with
          | blk bb =>
            obtain ⟨c, m, e, q, st⟩ := bb
            simp only [Par] at hp; subst hp
            exact crossOk_spec hcross id (Nat.zero_le _) (by omega) c m e p st a3 (by simp only [Dead] at hd; omega)
          | _ => simp [Par] at hp
        have hidpre : hasId id pre = false := by
          cases hx : hasId id pre with
          | false => rfl
          | true => rw [(hpp _ hx).2] at p1; cases p1
        rcases hob p o' (by rw [hF.ext _ _ hlp]; simp) ho' with ⟨p2, b2, b3, b4, b5⟩ | ⟨p2, b2, b3, b4⟩
        · exfalso
          rw [hidpre] at hpre0
          rcases b5 with x | x
          · rw [x] at hpre0; cases hpre0
          · rw [hS.fresh p x] at hlp; cases hlp
        · exact z2 o' b3
  have hown : ∀ b, b < w.heap.size → Owned ι2 ⟨hm, nx', 0⟩ b → Owned ι s b := by
    rintro b hb ⟨id, l, o, a1, a2, a3, a4⟩
    rcases hob id o (by rw [a1]; simp) a3 with ⟨_, h2, _⟩ | ⟨h1, h2, h3, h4⟩
    · exact hRown b (hF.own b hb ⟨id, l, o, a1, a2, h2, a4⟩)
    · exact ⟨id, l, o, by rw [h4]; exact a1, a2, h3, a4⟩
  have hFf : Fm s.nx ι s w ι2 ⟨hm, nx', 0⟩ w2 := by
    refine ⟨hF.ext, ?_, ?_, fun b hb ho => hF.heap b hb (fun x => ho (hRown b x)), hown, ?_, ?_, ?_, hlo0.symm, hnxle, hF.size, hF.os, hF.out, hF.tape⟩
    · intro id hi hn
      obtain ⟨x, y⟩ := hF.keep id hi hn
      refine ⟨x, ?_⟩
      show hm.get id = s.h.get id
      rcases hfin id with ⟨h1, o', h2, h3, h4, h5, h6⟩ | ⟨h1, h2⟩
      · rcases h6 with h6 | h6
        · obtain ⟨o, e1, e2⟩ := hRhas id h6
          rw [h2, ← h3, y, e1, e2]
        · omega
      · rw [h2, if_neg (by omega)]
    · intro id l hn hs
      rcases hF.new id l hn hs with x | x
      · exact .inl x
      · exact .inr (hRownL _ x)
    · rintro b hb ⟨id, l, o, a0, a1, a2, a3, a4⟩
      obtain ⟨i3, l3, o3, c1, c2, c3, c4⟩ := hown b hb ⟨id, l, o, a1, a2, a3, a4⟩
      exact ⟨i3, l3, o3, by omega, c1, c2, c3, c4⟩
    · intro id hi hn
      show hm.get id = none
      rcases hfin id with ⟨h1, o', h2, h3, h4, h5, h6⟩ | ⟨h1, h2⟩
      · exfalso
        rcases h6 with h6 | h6
        · obtain ⟨o, e1, e2⟩ := hRhas id h6
          rw [hn] at e2; cases e2
        · omega
      · rw [h2, if_neg (by omega)]; exact hn
    · intro id hi; omega
  exact ⟨hSf, hFf⟩

theorem shotK_ok {sh : Shot} {f : FuncId} (h : ShotOk P w0 f sh) (hf : shotFrame sh = true) : KOk P w0 (shotK sh) f := by
  obtain ⟨args0, nx, pre, a0, nx', post⟩ := sh
  intro cs args s r hF ι w args' hini hS hlo hrel
  simp only [shotK] at hF
  cases hc : sameArgs args0 args && Nat.beq s.nx nx && Nat.beq s.lo 0 && allIn s.h pre && crossC pre s.h nx with
  | false => rw [hc] at hF; cases hF
  | true =>
    rw [hc] at hF; simp only [cond_true, Option.some.injEq] at hF
    subst hF
    simp only [Bool.and_eq_true, Nat.beq_eq] at hc
    obtain ⟨⟨⟨⟨hargs, hnx⟩, hlo0⟩, hall⟩, hcross⟩ := hc
    have hcross := crossC_ok hcross
    have := sameArgs_eq hargs; subst this
    simp only [shotFrame, Bool.and_eq_true, Nat.ble_eq] at hf
    obtain ⟨⟨hpre, hpost⟩, hnxle⟩ := hf
    have hAll := allIn_spec hall
    have hRget : ∀ i o, (ofL pre .leaf).get i = some o → s.h.get i = some o := by
      intro i o hg
      rcases ofL_get pre .leaf i with ⟨h1, o', h2, h3⟩ | ⟨h1, h2⟩
      · rw [hg] at h2; cases h2; exact hAll _ h3
      · rw [hg] at h2; cases h2
    have hSR : SRel P ι ⟨ofL pre .leaf, nx, 0⟩ w := by
      refine ⟨fun id l o a b => hS.obj id l o a (hRget id o b), fun id hi => hS.fresh id (by simp only at hi; omega), hS.bound, fun id1 id2 l1 l2 o1 o2 a b c d e f => hS.alias id1 id2 l1 l2 o1 o2 a b c d (hRget _ _ e) (hRget _ _ f), ?_⟩
      intro id o p a b c d
      obtain ⟨x, y⟩ := hS.par id o p (hRget id o a) b c d
      exact ⟨x, fun o' ho' => y o' (hRget p o' ho')⟩
    have hini0 : Ini w0 ι ⟨ofL pre .leaf, nx, 0⟩ w := ⟨hini.size, hini.same, fun b hb ho => hini.own b hb (by
      obtain ⟨id, l, o, a1, a2, a3, a4⟩ := ho
      exact ⟨id, l, o, a1, a2, hRget id o a3, a4⟩), hini.out, hini.os, hini.tape, hini.pin⟩
    have hp := h cs ι w args' hini0 hSR hrel
    cases a0 with
    | ret v =>
      obtain ⟨ι2, w2, v', e1, e2, e3, e4⟩ := hp
      obtain ⟨z1, z2⟩ := frame_shot hall (by rw [hnx]; exact hcross) hnx hlo0 hpre hpost hnxle hS e2 e3
      exact ⟨ι2, w2, v', e1, z1, z2, e4⟩
    | pan t v =>
      obtain ⟨ι2, w2, v', e1, e2, e3, e4⟩ := hp
      obtain ⟨z1, z2⟩ := frame_shot hall (by rw [hnx]; exact hcross) hnx hlo0 hpre hpost hnxle hS e2 e3
      exact ⟨ι2, w2, v', e1, z1, z2, e4⟩

end
end Go.AM
/- Numbers for symbols, and the other way round: what stands beside a part of the memory in which numbers are told by symbols. -/
namespace Go.AM
noncomputable section
variable {P : Program} {K : Known} {w0 : Start}

/-- all names within are of p -/
def idsV (p : Nat → Bool) : Nat → Value → Bool
  | 0, _ => false
  | n + 1, v => match v with
    | .bool _ | .int _ _ | .string _ | .pointer none | .slice none _ _ | .map none | .nilFunc | .nilIface => true
    | .pointer (some a) => p a.block
    | .slice (some a) _ _ => p a.block
    | .map (some b) => p b
    | .func (.func _) xs ys => xs.toList.all (idsV p n) && ys.toList.all (idsV p n)
    | .iface _ v => idsV p n v
    | .agg xs => xs.toList.all (idsV p n)
    | .tuple xs => xs.toList.all (idsV p n)
    | _ => false

theorem VRelL.all {p : Nat → Bool} {n : Nat} {ι ι' : Inj} (ih : ∀ v x, idsV p n v = true → VRel ι v x → VRel ι' v x) : ∀ {l l' : List Value}, l.all (idsV p n) = true → VRelL ι l l' → VRelL ι' l l'
  | _, _, _, .nil => .nil
  | _, _, h, .cons a b => by
    simp only [List.all_cons, Bool.and_eq_true] at h
    exact .cons (ih _ _ h.1 a) (VRelL.all ih h.2 b)

theorem VRel.tr {p : Nat → Bool} {ι ι' : Inj} (hp : ∀ id l, p id = true → ι id = some l → ι' id = some l) : ∀ (n : Nat) (v x : Value), idsV p n v = true → VRel ι v x → VRel ι' v x
  | 0, v, x, h, _ => by cases h
  | n + 1, v, x, h, hr => by
    have ih := VRel.tr hp n
    cases hr with
    | poi => simp [idsV] at h
    | bool => exact .bool _
    | int => exact .int _ _
    | string => exact .string _
    | sym => simp [idsV] at h
    | row => simp [idsV] at h
    | nilptr => exact .nilptr
    | nilslice => exact .nilslice _ _
    | nilmap => exact .nilmap
    | nilFunc => exact .nilFunc
    | nilIface => exact .nilIface
    | ptr a => exact .ptr (hp _ _ (by simpa [idsV] using h) a)
    | slice a b c d e f => exact .slice (hp _ _ (by simpa [idsV] using h) a) b c d e f
    | map a => exact .map (hp _ _ (by simpa [idsV] using h) a)
    | func a b =>
      simp only [idsV, Bool.and_eq_true] at h
      exact .func (VRelL.all ih h.1 a) (VRelL.all ih h.2 b)
    | yield a => simp [idsV] at h
    | iface a => exact .iface (ih _ _ (by simpa [idsV] using h) a)
    | agg a => exact .agg (VRelL.all ih (by simpa [idsV] using h) a)
    | tuple a => exact .tuple (VRelL.all ih (by simpa [idsV] using h) a)

/-- a symbol's number -/
def subV (σ : Nat → Option Nat) (v : Value) : Value :=
  match v with
  | .chan (some m) => match symK (symCode m), σ (symId m) with
    | some k, some n => .int k ((n + symOff m : Nat) : Int)
    | _, _ => v
  | v => v
/-- a symbol, and more -/
def shV (d : Nat → Nat) (v : Value) : Value :=
  match v with
  | .chan (some m) => .chan (some (Nat.add m (d (symId m))))
  | v => v
/-- a symbol with a small offset that is told of, or a value whose names are of p -/
def okV (p : Nat → Bool) (σ : Nat → Bool) (v : Value) : Bool :=
  match v with
  | .chan (some m) => σ (symId m) && (match symK (symCode m) with | some _ => true | none => false) && Nat.blt (symOff m) 1000
  | .chan none => true
  | v => idsV p 60 v

theorem sym_add {m d : Nat} (h1 : symOff m < 1000) (h2 : d < 1000) : symId (Nat.add m d) = symId m ∧ symCode (Nat.add m d) = symCode m ∧ symOff (Nat.add m d) = symOff m + d := by
  have e1 : ∀ a b : Nat, Nat.div a b = a / b := fun _ _ => rfl
  have e2 : ∀ a b : Nat, Nat.mod a b = a % b := fun _ _ => rfl
  have e3 : Nat.add m d = m + d := rfl
  rw [e3]
  simp only [symCode, symOff, symId, e1, e2] at *
  refine ⟨by omega, by omega, by omega⟩

structure Nums (σ : Nat → Option Nat) (q : Nat → Bool) (d : Nat → Nat) : Prop where
  dom : ∀ i, q i = true → ∃ n, σ i = some n
  bnd : ∀ i n, q i = true → σ i = some n → n < symB i
  small : ∀ i, d i < 1000

variable {σ σ1 : Nat → Option Nat} {q : Nat → Bool} {d : Nat → Nat} {p : Nat → Bool} {ι ι' : Inj}

/-- from symbols to numbers -/
theorem VRel.lit (hd : ∀ i, d i < 1000) (hσ : ∀ i n, q i = true → σ i = some n → σ1 i = some (n + d i)) (hdom : ∀ i, q i = true → ∃ n, σ i = some n) (hpin : ∀ i n, σ i = some n → ∃ l, ι i = some l ∧ l.base = n) (hp : ∀ id l, p id = true → ι id = some l → ι' id = some l) {v x : Value} (ho : okV p q v = true) (h : VRel ι (shV d v) x) : VRel ι' (subV σ1 v) x := by
  cases v with
  | chan c =>
    cases c with
    | none => exact .poi _
    | some m =>
      simp only [okV, Bool.and_eq_true, Nat.blt_eq] at ho
      obtain ⟨⟨h1, h2⟩, h3⟩ := ho
      cases hk : symK (symCode m) with
      | none => simp [hk] at h2
      | some k =>
        obtain ⟨n, hn⟩ := hdom _ h1
        obtain ⟨l, e1, e2⟩ := hpin _ _ hn
        obtain ⟨a1, a2, a3⟩ := sym_add h3 (hd (symId m))
        simp only [shV] at h
        obtain ⟨l', b1, _, _, rfl⟩ := h.sym_inv (k := k) (by rw [a2]; exact hk)
        rw [a1, e1] at b1; cases b1
        simp only [subV, hk, hσ _ _ h1 hn]
        rw [a3, e2, show n + d (symId m) + symOff m = n + (symOff m + d (symId m)) by omega]
        exact .int _ _
  | _ => exact VRel.tr hp 60 _ _ ho h

/-- from numbers to symbols -/
theorem VRel.symb (hd : ∀ i, d i < 1000) (hσ : ∀ i n, q i = true → σ i = some n → σ1 i = some (n + d i)) (hdom : ∀ i, q i = true → ∃ n, σ i = some n) (hbnd : ∀ i n, q i = true → σ i = some n → n < symB i) (hpin : ∀ i n, σ i = some n → ∃ l, ι' i = some l ∧ l.base = n) (hp : ∀ id l, p id = true → ι id = some l → ι' id = some l) {v x : Value} (ho : okV p q v = true)
    (h : VRel ι (subV σ1 v) x) : VRel ι' (shV d v) x := by
  cases v with
  | chan c =>
    cases c with
    | none => exact .poi _
    | some m =>
      simp only [okV, Bool.and_eq_true, Nat.blt_eq] at ho
      obtain ⟨⟨h1, h2⟩, h3⟩ := ho
      cases hk : symK (symCode m) with
      | none => simp [hk] at h2
      | some k =>
        obtain ⟨n, hn⟩ := hdom _ h1
        obtain ⟨l, e1, e2⟩ := hpin _ _ hn
        obtain ⟨a1, a2, a3⟩ := sym_add h3 (hd (symId m))
        simp only [subV, hk, hσ _ _ h1 hn] at h
        have := h.int_inv; subst this
        have hdd := hd (symId m)
        have := VRel.sym (ι := ι') (m := Nat.add m (d (symId m))) (l := l) (k := k) (by rw [a1]; exact e1) (by rw [a2]; exact hk) (by rw [a1, e2]; exact hbnd _ _ h1 hn) (by rw [a3]; omega)
        rw [a3, e2, show n + (symOff m + d (symId m)) = n + d (symId m) + symOff m by omega] at this
        exact this
  | _ => exact VRel.tr hp 60 _ _ ho h

/-! ### objects -/

def T.map {α : Type} (f : α → α) : T α → T α
  | .leaf => .leaf
  | .node l v r => .node (T.map f l) (match v with | some x => some (f x) | none => none) (T.map f r)
theorem T.get_map {α : Type} (f : α → α) : ∀ (n : Nat) (t : T α) (i : Nat), i < n → (T.map f t).get i = (match t.get i with | some x => some (f x) | none => none)
  | 0, _, i, h => by omega
  | n + 1, .leaf, i, h => by simp [T.map, T.get_leaf]
  | n + 1, .node l v r, i, h => by
    have e0 : Nat.div i 2 = i / 2 := rfl
    simp only [T.map, T.get_node]
    cases h0 : Nat.beq i 0 with
    | true => simp
    | false =>
      have hi : i ≠ 0 := fun e => by rw [e] at h0; cases h0
      simp only [cond_false]
      cases h1 : Nat.beq (Nat.mod i 2) 1 with
      | true => simp only [cond_true]; exact T.get_map f n l _ (by rw [e0]; omega)
      | false => simp only [cond_false]; exact T.get_map f n r _ (by rw [e0]; have : Nat.pred (i / 2) = i / 2 - 1 := rfl; rw [this]; omega)
def T.allV {α : Type} (f : α → Bool) : T α → Bool
  | .leaf => true
  | .node l v r => (match v with | some x => f x | none => true) && T.allV f l && T.allV f r
theorem T.allV_get {α : Type} {f : α → Bool} : ∀ (n : Nat) (t : T α) (i : Nat) (x : α), i < n → T.allV f t = true → t.get i = some x → f x = true
  | 0, _, i, _, h, _, _ => by omega
  | n + 1, .leaf, i, x, h, _, hg => by simp [T.get_leaf] at hg
  | n + 1, .node l v r, i, x, h, ha, hg => by
    have e0 : Nat.div i 2 = i / 2 := rfl
    simp only [T.allV, Bool.and_eq_true] at ha
    simp only [T.get_node] at hg
    cases h0 : Nat.beq i 0 with
    | true => rw [h0] at hg; simp only [cond_true] at hg; have := ha.1.1; rw [hg] at this; exact this
    | false =>
      have hi : i ≠ 0 := fun e => by rw [e] at h0; cases h0
      rw [h0] at hg; simp only [cond_false] at hg
      cases h1 : Nat.beq (Nat.mod i 2) 1 with
      | true => rw [h1] at hg; simp only [cond_true] at hg; exact T.allV_get n l _ x (by rw [e0]; omega) ha.1.2 hg
      | false => rw [h1] at hg; simp only [cond_false] at hg; exact T.allV_get n r _ x (by rw [e0]; have : Nat.pred (i / 2) = i / 2 - 1 := rfl; rw [this]; omega) ha.2 hg

def mapO (f : Value → Value) : AObj → AObj
  | .blk ⟨c, n, e, p, st⟩ => .blk ⟨T.map f c, n, e, p, st⟩
  | o => o
def okEs (p : Nat → Bool) : List (Value × Value) → Bool
  | [] => true
  | (k, v) :: l => idsV p 60 k && idsV p 60 v && okEs p l
/-- an object of a template -/
def okO (p q : Nat → Bool) : AObj → Bool
  | .blk ⟨c, _, _, par, st⟩ => Nat.blt st 2 && T.allV (okV p q) c && (match par with | none => true | some z => p z)
  | .map es _ => okEs p es
  | .pmap es _ => okEs p es
  | _ => false

theorem mapO_dead {f : Value → Value} {o : AObj} : (Dead (mapO f o) ↔ Dead o) ∧ (NotHole (mapO f o) ↔ NotHole o) ∧ ∀ z, Par (mapO f o) z ↔ Par o z := by
  cases o with
  | blk b => obtain ⟨c, n, e, p, st⟩ := b; exact ⟨Iff.rfl, Iff.rfl, fun _ => Iff.rfl⟩
  | _ => exact ⟨Iff.rfl, Iff.rfl, fun _ => Iff.rfl⟩
theorem okO_live {p q : Nat → Bool} {o : AObj} (h : okO p q o = true) : ¬ Dead o ∧ NotHole o ∧ ∀ z, Par o z → p z = true := by
  cases o with
  | blk b =>
    obtain ⟨c, n, e, pp, st⟩ := b
    simp only [okO, Bool.and_eq_true, Nat.blt_eq] at h
    refine ⟨by simp only [Dead]; omega, h.1.1, ?_⟩
    intro z hz
    simp only [Par] at hz; subst hz
    exact h.2
  | map _ _ => exact ⟨by simp [Dead], trivial, by intro z; simp [Par]⟩
  | pmap _ _ => exact ⟨by simp [Dead], trivial, by intro z; simp [Par]⟩
  | _ => simp [okO] at h

theorem okEs_rel {p : Nat → Bool} {ι ι' : Inj} (hp : ∀ id l, p id = true → ι id = some l → ι' id = some l) : ∀ {es : List (Value × Value)} {lst : List MapEntry}, okEs p es = true → EsRel ι es lst → EsRel ι' es lst
  | _, _, _, .nil => .nil
  | (k, v) :: _, _, h, .cons a b c => by
    simp only [okEs, Bool.and_eq_true] at h
    exact .cons (VRel.tr hp 60 _ _ h.1.1 a) (VRel.tr hp 60 _ _ h.1.2 b) (okEs_rel hp h.2 c)

theorem ORel.chg {p q : Nat → Bool} {f g : Value → Value} (hp : ∀ id l, p id = true → ι id = some l → ι' id = some l) (hv : ∀ v x, okV p q v = true → VRel ι (f v) x → VRel ι' (g v) x) {l : Loc} {o : AObj} {o' : Obj} (ho : okO p q o = true) (h : ORel P ι l (mapO f o) o') : ORel P ι' l (mapO g o) o' := by
  cases o with
  | blk b =>
    obtain ⟨c, n, e, pp, st⟩ := b
    simp only [okO, Bool.and_eq_true, Nat.blt_eq] at ho
    simp only [mapO] at h ⊢
    cases h with
    | dead _ hd => omega
    | blk a b c' d =>
      refine .blk a b (fun i v hi hn => ?_) d
      rw [T.get_map g (i + 1) c i (Nat.lt_succ_self i)] at hi
      cases hg : c.get i with
      | none => simp [hg] at hi
      | some v0 =>
        simp only [hg, Option.some.injEq] at hi; subst hi
        have hok := T.allV_get (i + 1) c i v0 (Nat.lt_succ_self i) ho.1.2 hg
        obtain ⟨x, e1, e2⟩ := c' i (f v0) (by rw [T.get_map f (i + 1) c i (Nat.lt_succ_self i), hg]) hn
        exact ⟨x, e1, hv v0 x hok e2⟩
  | map es clk =>
    simp only [mapO] at h ⊢
    simp only [okO] at ho
    cases h with
    | map a b c d e => exact .map a (okEs_rel hp ho b) c d e
  | pmap es clk =>
    simp only [mapO] at h ⊢
    simp only [okO] at ho
    cases h with
    | pmap a b c d e f => exact .pmap a (okEs_rel hp ho b) c d e f
  | _ => simp [okO] at ho

end
end Go.AM
/- From a run with symbols to a call with numbers. -/
namespace Go.AM
noncomputable section
variable {P : Program} {K : Known}

def mapL (f : Value → Value) : List (Nat × AObj) → List (Nat × AObj)
  | [] => []
  | (i, o) :: l => (i, mapO f o) :: mapL f l
def mapOpt (f : Value → Value) : Option AObj → Option AObj
  | some o => some (mapO f o)
  | none => none
theorem ofL_map (f : Value → Value) : ∀ (l : List (Nat × AObj)) (t t' : T AObj), (∀ i, t'.get i = mapOpt f (t.get i)) → ∀ i, (ofL (mapL f l) t').get i = mapOpt f ((ofL l t).get i)
  | [], t, t', h, i => h i
  | (j, o) :: l, t, t', h, i => by
    refine ofL_map f l (t.set j o) (t'.set j (mapO f o)) (fun k => ?_) i
    rw [T.get_set, T.get_set]
    by_cases e : k = j
    · rw [if_pos e, if_pos e]; rfl
    · rw [if_neg e, if_neg e]; exact h k
theorem ofL_map0 (f : Value → Value) (l : List (Nat × AObj)) (i : Nat) : (ofL (mapL f l) .leaf).get i = mapOpt f ((ofL l .leaf).get i) :=
  ofL_map f l .leaf .leaf (fun _ => rfl) i
theorem mapOpt_some {f : Value → Value} {x : Option AObj} {o : AObj} (h : mapOpt f x = some o) : ∃ o0, x = some o0 ∧ o = mapO f o0 := by
  cases x with
  | none => cases h
  | some o0 => simp only [mapOpt, Option.some.injEq] at h; exact ⟨o0, rfl, h.symm⟩
theorem hasId_map (f : Value → Value) (i : Nat) : ∀ l : List (Nat × AObj), hasId i (mapL f l) = hasId i l
  | [] => rfl
  | (j, o) :: l => by simp only [mapL, hasId, hasId_map f i l]

/-- all objects of a template are plain ones -/
def okL (p q : Nat → Bool) (nx : Nat) : List (Nat × AObj) → Bool
  | [] => true
  | (i, o) :: l => Nat.blt i nx && okO p q o && okL p q nx l
theorem okL_spec {p q : Nat → Bool} {nx : Nat} : ∀ {l : List (Nat × AObj)}, okL p q nx l = true → ∀ x ∈ l, x.1 < nx ∧ okO p q x.2 = true
  | [], _, x, hx => by simp at hx
  | (i, o) :: l, h, x, hx => by
    simp only [okL, Bool.and_eq_true, Nat.blt_eq] at h
    rcases List.mem_cons.1 hx with rfl | hx
    · exact h.1
    · exact okL_spec h.2 x hx
theorem okL_get {p q : Nat → Bool} {nx : Nat} {l : List (Nat × AObj)} (h : okL p q nx l = true) {i : Nat} {o : AObj} (hg : (ofL l .leaf).get i = some o) : i < nx ∧ okO p q o = true ∧ hasId i l = true := by
  rcases ofL_get l .leaf i with ⟨h1, o', h2, h3⟩ | ⟨_, h2⟩
  · rw [hg] at h2; cases h2
    have := okL_spec h _ h3
    exact ⟨this.1, this.2, h1⟩
  · rw [hg] at h2; cases h2

theorem T.map_id {α : Type} {f : α → α} (h : ∀ x, f x = x) : ∀ t : T α, T.map f t = t
  | .leaf => rfl
  | .node l v r => by
    simp only [T.map]
    rw [T.map_id h l, T.map_id h r]
    cases v with
    | none => rfl
    | some x => simp only [h x]
theorem shV_zero (v : Value) : shV (fun _ => 0) v = v := by
  cases v with
  | chan c => cases c with
    | none => rfl
    | some m => rfl
  | _ => rfl
theorem mapO_id {f : Value → Value} (h : ∀ x, f x = x) (o : AObj) : mapO f o = o := by
  cases o with
  | blk b => obtain ⟨c, n, e, p, st⟩ := b; simp only [mapO, T.map_id h]
  | _ => rfl

def Start.pins (w : World) (σ : Nat → Option Nat) : Start := { w with pin := σ }

theorem Owned.ofL {w0 : World} {ι : Inj} {s : S} {b : Nat} (hlo : s.lo = 0) (h : Owned ι s b) : OwnedL ι s b := by
  obtain ⟨id, l, o, a⟩ := h
  exact ⟨id, l, o, by omega, a⟩

section
variable {w0 : World} {σ : Nat → Option Nat} {q : Nat → Bool} {f : FuncId} {args : List Value} {nx nxS nxE : Nat} {pre post : List (Nat × AObj)} {ans : Ans}

/-- the places, with the numbers -/
def numI (ι : Inj) (σ : Nat → Option Nat) (b : Nat) : Inj := fun i => match σ i with
  | some n => some ⟨b, n, 0⟩
  | none => ι i

def idsA (p : Nat → Bool) : Ans → Bool
  | .ret v => idsV p 60 v
  | .pan _ v => idsV p 60 v

theorem ShotOk.lit (h : ShotOk P (.pins w0 σ) f ⟨args, nxS, pre, ans, nxE, post⟩) (hdom : ∀ i, q i = true → ∃ n, σ i = some n) (hrng : ∀ i n, σ i = some n → q i = true ∧ nx ≤ i ∧ i < nxS) (hnx : nx ≤ nxS)
    (hbnd : ∀ i n, q i = true → σ i = some n → n < symB i) (hpre : okL (fun i => Nat.blt i nx) q nx pre = true) (hpost : okL (fun i => Nat.blt i nx) q nx post = true)
    (hargs : args.all (idsV (fun i => Nat.blt i nx) 60) = true) (hans : idsA (fun i => Nat.blt i nx) ans = true) (hne : ∃ a l, args = .pointer (some a) :: l) :
    ShotOk P (.of w0) f ⟨args, nx, mapL (subV σ) pre, ans, nx, mapL (subV σ) post⟩ := by
  intro cs ι w args' hini hS hrel
  simp only [shPre, shPost] at hini hS hrel ⊢
  obtain ⟨b, hb⟩ : ∃ b, b < w.heap.size := by
    obtain ⟨a, l, rfl⟩ := hne
    have hrel0 := hrel
    generalize args'.toList = al at hrel0
    cases hrel0 with
    | cons x _ =>
      obtain ⟨l0, e, _⟩ := x.ptr_inv
      exact ⟨_, hS.bound _ _ e⟩
  have σlo : ∀ i, i < nx → σ i = none := by
    intro i hi
    cases hs : σ i with
    | none => rfl
    | some n => have := (hrng i n hs).2.1; omega
  have hlow : ∀ i, i < nx → numI ι σ b i = ι i := fun i hi => by simp only [numI, σlo i hi]
  have hpins : ∀ i n, σ i = some n → ∃ l, numI ι σ b i = some l ∧ l.base = n := fun i n hs => ⟨⟨b, n, 0⟩, by simp only [numI, hs], rfl⟩
  have hp1 : ∀ id l, Nat.blt id nx = true → ι id = some l → numI ι σ b id = some l := by
    intro id l h1 h2
    rw [hlow id (by simpa using h1)]; exact h2
  have hgetP := ofL_map0 (subV σ) pre
  have hgetQ := ofL_map0 (subV σ) post
  -- an object of the template
  have hin : ∀ id l o, numI ι σ b id = some l → (ofL pre .leaf).get id = some o → ι id = some l ∧ okO (fun i => Nat.blt i nx) q o = true ∧ (ofL (mapL (subV σ) pre) .leaf).get id = some (mapO (subV σ) o) := by
    intro id l o a g
    obtain ⟨x1, x2, _⟩ := okL_get hpre g
    exact ⟨by rw [← hlow id x1]; exact a, x2, by rw [hgetP, g]; rfl⟩
  have hS1 : SRel P (numI ι σ b) ⟨ofL pre .leaf, nxS, 0⟩ w := by
    refine ⟨?_, ?_, ?_, ?_, ?_⟩
    · intro id l o a g
      obtain ⟨x1, x2, x3⟩ := hin id l o a g
      obtain ⟨o', r1, r2⟩ := hS.obj id l _ x1 x3
      refine ⟨o', r1, ?_⟩
      have := ORel.chg (P := P) (p := fun i => Nat.blt i nx) (q := q) (f := subV σ) (g := shV (fun _ => 0)) hp1
        (fun v x ho hv => VRel.symb (d := fun _ => 0) (σ := σ) (σ1 := σ) (fun _ => by omega) (fun i n _ hs => by simpa using hs) hdom hbnd hpins hp1 ho hv) x2 r2
      rw [mapO_id shV_zero] at this
      exact this
    · intro id hi
      cases hs : σ id with
      | some n => have := (hrng id n hs).2.2; simp only at hi; omega
      | none => simp only [numI, hs]; exact hS.fresh id (by simp only at hi ⊢; omega)
    · intro id l hl
      unfold numI at hl
      split at hl
      · cases hl; exact hb
      · exact hS.bound _ _ hl
    · intro id1 id2 l1 l2 o1 o2 hne' i1 i2 hbl g1 g2
      obtain ⟨x1, x2, x3⟩ := hin id1 l1 o1 i1 g1
      obtain ⟨y1, y2, y3⟩ := hin id2 l2 o2 i2 g2
      have := hS.alias id1 id2 l1 l2 _ _ hne' x1 y1 hbl x3 y3
      simpa only [mapO_dead.1, mapO_dead.2.2] using this
    · intro id o pp g hi hdd hpar
      obtain ⟨l, hl⟩ := Option.ne_none_iff_exists'.1 hi
      obtain ⟨x1, x2, x3⟩ := hin id l o hl g
      have hpp : pp < nx := by simpa using (okO_live x2).2.2 pp hpar
      obtain ⟨y1, y2⟩ := hS.par id _ pp x3 (by rw [x1]; simp) (fun x => hdd (mapO_dead.1.1 x)) ((mapO_dead.2.2 pp).2 hpar)
      refine ⟨by rw [hlow pp hpp]; exact y1, fun o' ho' => ?_⟩
      have hg' : (ofL (mapL (subV σ) pre) .leaf).get pp = some (mapO (subV σ) o') := by rw [hgetP]; have : (ofL pre .leaf).get pp = some o' := ho'; rw [this]; rfl
      obtain ⟨b0, e1, e2⟩ := y2 _ hg'
      cases o' with
      | blk bb => obtain ⟨c1, n1, e1', p1, s1⟩ := bb; simp only [mapO] at e1; cases e1; exact ⟨_, rfl, e2⟩
      | _ => simp [mapO] at e1
  have hown1 : ∀ b', Owned (numI ι σ b) ⟨ofL pre .leaf, nxS, 0⟩ b' → Owned ι ⟨ofL (mapL (subV σ) pre) .leaf, nx, 0⟩ b' := by
    rintro b' ⟨id, l, o, a1, a2, a3, a4⟩
    obtain ⟨x1, x2, x3⟩ := hin id l o a1 a3
    exact ⟨id, l, _, x1, a2, x3, mapO_dead.2.1.2 a4⟩
  have hini1 : Ini (.pins w0 σ) (numI ι σ b) ⟨ofL pre .leaf, nxS, 0⟩ w := ⟨hini.size, hini.same, fun b' hb' ho => hini.own b' hb' (hown1 b' ho), hini.out, hini.os, hini.tape, fun i v hv => hpins i v hv⟩
  have hrel1 : VRelL (numI ι σ b) args args'.toList := VRelL.all (p := fun i => Nat.blt i nx) (n := 60) (fun v x => VRel.tr hp1 60 v x) hargs hrel
  have hk := h cs (numI ι σ b) w args' hini1 hS1 hrel1
  simp only [shPre, shPost] at hk
  -- behind it
  have key : ∀ {ι2 : Inj} {w2 : World} {v v' : Value}, idsV (fun i => Nat.blt i nx) 60 v = true → VRel ι2 v v' → SRel P ι2 ⟨ofL post .leaf, nxE, 0⟩ w2 → Fm nxS (numI ι σ b) ⟨ofL pre .leaf, nxS, 0⟩ w ι2 ⟨ofL post .leaf, nxE, 0⟩ w2 →
      VRel ι v v' ∧ SRel P ι ⟨ofL (mapL (subV σ) post) .leaf, nx, 0⟩ w2 ∧ Fm nx ι ⟨ofL (mapL (subV σ) pre) .leaf, nx, 0⟩ w ι ⟨ofL (mapL (subV σ) post) .leaf, nx, 0⟩ w2 := by
    intro ι2 w2 v v' hv e1 e2 e3
    have hback : ∀ id, id < nx → ι2 id = ι id := by
      intro id hlt
      rw [← hlow id hlt]
      cases hh : numI ι σ b id with
      | some l => rw [e3.ext _ _ hh]
      | none => exact (e3.keep id (by omega) hh).1
    have hp2 : ∀ id l, Nat.blt id nx = true → ι2 id = some l → ι id = some l := by
      intro id l h1 h2
      rw [← hback id (by simpa using h1)]; exact h2
    have hpins2 : ∀ i n, σ i = some n → ∃ l, ι2 i = some l ∧ l.base = n := by
      intro i n hs
      obtain ⟨l, x1, x2⟩ := hpins i n hs
      exact ⟨l, e3.ext _ _ x1, x2⟩
    have hq : ∀ id l o, ι id = some l → (ofL (mapL (subV σ) post) .leaf).get id = some o → ∃ o0, o = mapO (subV σ) o0 ∧ (ofL post .leaf).get id = some o0 ∧ ι2 id = some l ∧ okO (fun i => Nat.blt i nx) q o0 = true ∧ id < nx := by
      intro id l o a g
      rw [hgetQ] at g
      obtain ⟨o0, x1, rfl⟩ := mapOpt_some g
      obtain ⟨y1, y2, _⟩ := okL_get hpost x1
      exact ⟨o0, rfl, x1, by rw [hback id y1]; exact a, y2, y1⟩
    have hown2 : ∀ b', Owned ι ⟨ofL (mapL (subV σ) post) .leaf, nx, 0⟩ b' → Owned ι2 ⟨ofL post .leaf, nxE, 0⟩ b' := by
      rintro b' ⟨id, l, o, a1, a2, a3, a4⟩
      obtain ⟨o0, rfl, y1, y2, _, _⟩ := hq id l o a1 a3
      exact ⟨id, l, o0, y2, a2, y1, mapO_dead.2.1.1 a4⟩
    refine ⟨VRel.tr hp2 60 _ _ hv e1, ⟨?_, hS.fresh, fun id l a => Nat.lt_of_lt_of_le (hS.bound id l a) e3.size, ?_, ?_⟩, ?_⟩
    · intro id l o a g
      obtain ⟨o0, rfl, y1, y2, y3, _⟩ := hq id l o a g
      obtain ⟨o', r1, r2⟩ := e2.obj id l o0 y2 y1
      refine ⟨o', r1, ?_⟩
      rw [← mapO_id shV_zero o0] at r2
      exact ORel.chg (P := P) (p := fun i => Nat.blt i nx) (q := q) (f := shV (fun _ => 0)) (g := subV σ) hp2
        (fun v x ho hv => VRel.lit (d := fun _ => 0) (σ := σ) (σ1 := σ) (fun _ => by omega) (fun i n _ hs => by simpa using hs) hdom hpins2 hp2 ho hv) y3 r2
    · intro id1 id2 l1 l2 o1 o2 hne' i1 i2 hbl g1 g2
      obtain ⟨x0, rfl, x1, x2, x3, _⟩ := hq id1 l1 o1 i1 g1
      obtain ⟨y0, rfl, y1, y2, y3, _⟩ := hq id2 l2 o2 i2 g2
      have := e2.alias id1 id2 l1 l2 _ _ hne' x2 y2 hbl x1 y1
      simpa only [mapO_dead.1, mapO_dead.2.2] using this
    · intro id o pp g hi hdd hpar
      obtain ⟨l, hl⟩ := Option.ne_none_iff_exists'.1 hi
      obtain ⟨x0, rfl, x1, x2, x3, _⟩ := hq id l o hl g
      have hpar' := (mapO_dead.2.2 pp).1 hpar
      have hpp : pp < nx := by simpa using (okO_live x3).2.2 pp hpar'
      obtain ⟨y1, y2⟩ := e2.par id x0 pp x1 (by rw [x2]; simp) (fun x => hdd (mapO_dead.1.2 x)) hpar'
      refine ⟨by rw [← hback pp hpp]; exact y1, fun o' ho' => ?_⟩
      have ho2 : mapOpt (subV σ) ((ofL post .leaf).get pp) = some o' := by rw [← hgetQ]; exact ho'
      obtain ⟨o1, z1, rfl⟩ := mapOpt_some ho2
      obtain ⟨b0, q1, q2⟩ := y2 o1 z1
      subst q1
      obtain ⟨c1, n1, e1', p1, s1⟩ := b0
      exact ⟨_, rfl, q2⟩
    · refine ⟨Ext.refl _, ?_, fun id l x y => (by rw [x] at y; cases y), ?_, ?_, ?_, ?_, fun id hi => absurd hi (Nat.not_lt_zero _), rfl, Nat.le_refl _, e3.size, e3.os, e3.out, e3.tape⟩
      · intro id hi hn
        refine ⟨hn, ?_⟩
        have hnn : numI ι σ b id = none := by rw [hlow id hi]; exact hn
        have hk2 := (e3.keep id (by omega) hnn).2
        show (ofL (mapL (subV σ) post) .leaf).get id = (ofL (mapL (subV σ) pre) .leaf).get id
        rw [hgetQ, hgetP]
        exact congrArg _ hk2
      · intro b' hb' hno
        exact e3.heap b' hb' (fun ho => hno (hown1 b' ho))
      · intro b' hb' ho
        exact hown1 b' (e3.own b' hb' (hown2 b' ho))
      · intro b' hb' ho
        exact (hown1 b' (e3.own b' hb' (hown2 b' ho.owned))).ofL (w0 := w0) rfl
      · intro id hi hn
        show (ofL (mapL (subV σ) post) .leaf).get id = none
        rw [hgetQ]
        have hn' : mapOpt (subV σ) ((ofL pre .leaf).get id) = none := by rw [← hgetP]; exact hn
        have : (ofL pre .leaf).get id = none := by
          cases hg : (ofL pre .leaf).get id with
          | none => rfl
          | some o => rw [hg] at hn'; cases hn'
        have := e3.absent id (by show id < nxS; simp only at hi; omega) this
        have h2 : (ofL post .leaf).get id = none := this
        rw [h2]; rfl
  cases ans with
  | ret v =>
    obtain ⟨ι2, w2, v', e1, e2, e3, e4⟩ := hk
    obtain ⟨z1, z2, z3⟩ := key hans e1 e2 e3
    exact ⟨ι, w2, v', z1, z2, z3, e4⟩
  | pan t v =>
    obtain ⟨ι2, w2, v', e1, e2, e3, e4⟩ := hk
    obtain ⟨z1, z2, z3⟩ := key hans e1 e2 e3
    exact ⟨ι, w2, v', z1, z2, z3, e4⟩

end
end
end Go.AM
