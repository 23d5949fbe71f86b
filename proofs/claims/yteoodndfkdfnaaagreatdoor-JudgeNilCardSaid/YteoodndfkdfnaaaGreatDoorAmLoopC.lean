/- Loops over maps: all rounds, in whatever order. -/
import Derived.Test.YteoodndfkdfnaaaGreatDoorAmLoopB
namespace Go.AM
variable {P : Program} {K : Known} {w0 : World}

/-- what is no row of cells has its block for itself -/
theorem SRel.alone {ι : Inj} {s : S} {w : World} (h : SRel P ι s w) {a b : Nat} {la lb : Loc} {oa ob : AObj} (ia : ι a = some la) (ib : ι b = some lb) (hne : a ≠ b) (hbl : la.blk = lb.blk) (ga : s.h.get a = some oa) (gb : s.h.get b = some ob)
    (hnb : ∀ x, oa ≠ .blk x) : Dead ob := by
  have hnd : ¬ Dead oa := by cases oa <;> first | exact absurd rfl (hnb _) | simp [Dead]
  have hnp : ∀ p, ¬ Par oa p := by intro p; cases oa <;> first | exact absurd rfl (hnb _) | simp [Par]
  rcases h.alias a b la lb oa ob hne ia ib hbl ga gb with x | x | x | x
  · exact absurd x hnd
  · exact x
  · exact absurd x (hnp _)
  · by_cases hd : Dead ob
    · exact hd
    · obtain ⟨_, y⟩ := h.par b ob a gb (by rw [ib]; simp) hd x
      obtain ⟨bb, e, _⟩ := y _ ga
      exact absurd e (hnb _)

theorem dead_not {o : AObj} (h : Dead o) : ¬ NotHole o := by
  cases o with
  | blk b => simp only [Dead] at h; simp only [NotHole]; omega
  | _ => exact absurd h (by simp [Dead])

theorem innerH_get (h : T AObj) (r m m0 id : Nat) : (innerH h r m m0).get id = if id = m0 then some .hole else if id = m then some .hole else if id = r then none else h.get id := by
  unfold innerH
  rw [T.get_set, T.get_set, T.get_setF _ _ _ _ _ (Nat.lt_succ_self r)]

structure LCtx (P : Program) (K : Known) (w0 : World) (fn nt : Nat) (g0 : T Value) (p : Pat) (ι : Inj) (s : S) (ws : World) (r m m0 : Nat) (lr lm lm0 : Loc) (c c0 : Nat) (srcE : Array MapEntry) (es0 : List (Value × Value)) (kk : KeyKind)
    (Z : List (RD × MapEntry)) (nxE : Nat) : Prop where
  srel : SRel P ι s ws
  lo : s.lo ≤ s.nx
  ini : Ini w0 ι s ws
  ir : ι r = some lr
  im : ι m = some lm
  im0 : ι m0 = some lm0
  gr : s.h.get r = some (.iter (some m) c)
  gm : ∃ es, s.h.get m = some (.map es c)
  gm0 : s.h.get m0 = some (.map es0 c0)
  base : lr.base = 0
  ne : m ≠ m0
  iter : ws.heap[lr.blk]? = some (.mapIter (some lm.blk) c #[] c)
  src : ws.heap[lm.blk]? = some (.map srcE c)
  born : ∀ e ∈ srcE.toList, e.born < c
  nodup : (srcE.toList.map (·.born)).Nodup
  ks : Z ≠ [] → ∀ q ∈ es0, keyOk kk q.1 = true
  zrel : ∀ z ∈ Z, VRel ι z.1.k z.2.key ∧ VRel ι z.1.v z.2.val
  zperm : (Z.map (·.2)).Perm srcE.toList
  rd : ∀ z ∈ Z, RdOk2 P K fn nt g0 p (innerH s.h r m m0) m0 kk z.1
  chn : Chn s.nx (Z.map (·.1)) nxE
  pw : (es0 ++ newEs (Z.map (·.1))).Pairwise (fun a b => KeyNe a.1 b.1)

structure LI (P : Program) (g0 : T Value) (nt : Nat) (ι : Inj) (s : S) (ws : World) (r m m0 : Nat) (lr lm : Loc) (c c0 : Nat) (srcE : Array MapEntry) (es0 : List (Value × Value)) (nxE : Nat) (Zd : List (RD × MapEntry)) (ιd : Inj) (hd : T AObj) (w : World) (tmps : Array Value) : Prop where
  srel : SRel P ιd ⟨hd, nxE, s.lo⟩ w
  inner : SRel P ι ⟨innerH s.h r m m0, s.nx, s.nx⟩ w
  low : ∀ id, id < s.nx → ιd id = ι id
  get : ∀ id, id < s.nx → id ≠ r → id ≠ m0 → hd.get id = s.h.get id
  getr : hd.get r = none
  getm0 : hd.get m0 = some (.map (es0 ++ newEs (Zd.map (·.1))) (c0 + Zd.length))
  hi : ∀ id l, s.nx ≤ id → ιd id = some l → ws.heap.size ≤ l.blk ∧ ∃ z ∈ Zd, z.1.nx ≤ id ∧ id < z.1.nx'
  own : ∀ z ∈ Zd, ∀ id, z.1.nx ≤ id → id < z.1.nx' → hd.get id = z.1.h1.get id
  iter : w.heap[lr.blk]? = some (.mapIter (some lm.blk) c (Zd.map (·.2.born)).toArray c)
  src : w.heap[lm.blk]? = some (.map srcE c)
  heap : ∀ b, b < ws.heap.size → ¬ Owned ι s b → w.heap[b]? = ws.heap[b]?
  size : ws.heap.size ≤ w.heap.size
  os : w.os = ws.os
  out : w.output = ws.output
  tape : w.tape = ws.tape
  trel : TmpRel ι g0 tmps
  tsz : tmps.size = nt

section
variable {fn nt : Nat} {g0 : T Value} {p : Pat} {ι : Inj} {s : S} {ws : World} {r m m0 : Nat} {lr lm lm0 : Loc} {c c0 : Nat} {srcE : Array MapEntry} {es0 : List (Value × Value)} {kk : KeyKind} {Z : List (RD × MapEntry)} {nxE : Nat}

theorem LCtx.lt_nx (h : LCtx P K w0 fn nt g0 p ι s ws r m m0 lr lm lm0 c c0 srcE es0 kk Z nxE) {id : Nat} {l : Loc} (hi : ι id = some l) : id < s.nx := by
  rcases Nat.lt_or_ge id s.nx with x | x
  · exact x
  · rw [h.srel.fresh id x] at hi; cases hi
theorem LCtx.rm (h : LCtx P K w0 fn nt g0 p ι s ws r m m0 lr lm lm0 c c0 srcE es0 kk Z nxE) : r ≠ m := fun e => by
  obtain ⟨es, hm⟩ := h.gm
  have := h.gr; rw [e, hm] at this; cases this
theorem LCtx.rm0 (h : LCtx P K w0 fn nt g0 p ι s ws r m m0 lr lm lm0 c c0 srcE es0 kk Z nxE) : r ≠ m0 := fun e => by
  have := h.gr; rw [e, h.gm0] at this; cases this
theorem LCtx.dst (h : LCtx P K w0 fn nt g0 p ι s ws r m m0 lr lm lm0 c c0 srcE es0 kk Z nxE) : ∃ dE, ws.heap[lm0.blk]? = some (.map dE c0) := by
  obtain ⟨o, a, b⟩ := h.srel.obj _ _ _ h.im0 h.gm0
  cases b; exact ⟨_, a⟩
theorem LCtx.blk_rm (h : LCtx P K w0 fn nt g0 p ι s ws r m m0 lr lm lm0 c c0 srcE es0 kk Z nxE) : lr.blk ≠ lm.blk := fun e => by
  have := h.iter; rw [e, h.src] at this; cases this
theorem LCtx.blk_rm0 (h : LCtx P K w0 fn nt g0 p ι s ws r m m0 lr lm lm0 c c0 srcE es0 kk Z nxE) : lr.blk ≠ lm0.blk := fun e => by
  obtain ⟨dE, hd⟩ := h.dst
  have := h.iter; rw [e, hd] at this; cases this
theorem LCtx.blk_mm0 (h : LCtx P K w0 fn nt g0 p ι s ws r m m0 lr lm lm0 c c0 srcE es0 kk Z nxE) : lm.blk ≠ lm0.blk := fun e => by
  obtain ⟨es, hm⟩ := h.gm
  have := h.srel.alone h.im h.im0 h.ne e hm h.gm0 (by intro x; simp)
  simp [Dead] at this

/-- who lies in one of the three blocks is gone -/
theorem LCtx.inner_dead (h : LCtx P K w0 fn nt g0 p ι s ws r m m0 lr lm lm0 c c0 srcE es0 kk Z nxE) {b : Nat} (hb : b = lr.blk ∨ b = lm.blk ∨ b = lm0.blk) {id : Nat} {l : Loc} {o : AObj} (hi : ι id = some l) (hl : l.blk = b)
    (hg : (innerH s.h r m m0).get id = some o) : o = .hole ∨ Dead o := by
  rw [innerH_get] at hg
  by_cases e1 : id = m0
  · rw [if_pos e1] at hg; cases hg; exact .inl rfl
  · rw [if_neg e1] at hg
    by_cases e2 : id = m
    · rw [if_pos e2] at hg; cases hg; exact .inl rfl
    · rw [if_neg e2] at hg
      by_cases e3 : id = r
      · rw [if_pos e3] at hg; cases hg
      · rw [if_neg e3] at hg
        obtain ⟨es, hm⟩ := h.gm
        refine .inr ?_
        rcases hb with e | e | e
        · exact h.srel.alone h.ir hi (Ne.symm e3) (by rw [hl, e]) h.gr hg (by intro x; simp)
        · exact h.srel.alone h.im hi (Ne.symm e2) (by rw [hl, e]) hm hg (by intro x; simp)
        · exact h.srel.alone h.im0 hi (Ne.symm e1) (by rw [hl, e]) h.gm0 hg (by intro x; simp)
theorem LCtx.not_owned (h : LCtx P K w0 fn nt g0 p ι s ws r m m0 lr lm lm0 c c0 srcE es0 kk Z nxE) {b : Nat} (hb : b = lr.blk ∨ b = lm.blk ∨ b = lm0.blk) {n lo : Nat} : ¬ Owned ι ⟨innerH s.h r m m0, n, lo⟩ b := by
  rintro ⟨id, l, o, a1, a2, a3, a4⟩
  rcases h.inner_dead hb a1 a2 a3 with e | e
  · rw [e] at a4; exact a4
  · exact dead_not e a4
theorem LCtx.owned_of (h : LCtx P K w0 fn nt g0 p ι s ws r m m0 lr lm lm0 c c0 srcE es0 kk Z nxE) {b n lo : Nat} (ho : Owned ι ⟨innerH s.h r m m0, n, lo⟩ b) : Owned ι s b := by
  obtain ⟨id, l, o, a1, a2, a3, a4⟩ := ho
  simp only at a3
  rw [innerH_get] at a3
  by_cases e1 : id = m0
  · rw [if_pos e1] at a3; cases a3; exact a4.elim
  · rw [if_neg e1] at a3
    by_cases e2 : id = m
    · rw [if_pos e2] at a3; cases a3; exact a4.elim
    · rw [if_neg e2] at a3
      by_cases e3 : id = r
      · rw [if_pos e3] at a3; cases a3
      · rw [if_neg e3] at a3; exact ⟨id, l, o, a1, a2, a3, a4⟩
theorem LCtx.owned (h : LCtx P K w0 fn nt g0 p ι s ws r m m0 lr lm lm0 c c0 srcE es0 kk Z nxE) {b : Nat} (hb : b = lr.blk ∨ b = lm0.blk) : Owned ι s b := by
  rcases hb with e | e
  · exact ⟨r, lr, _, h.ir, e.symm, h.gr, trivial⟩
  · exact ⟨m0, lm0, _, h.im0, e.symm, h.gm0, trivial⟩
theorem LCtx.ge (h : LCtx P K w0 fn nt g0 p ι s ws r m m0 lr lm lm0 c c0 srcE es0 kk Z nxE) {b : Nat} (hb : b = lr.blk ∨ b = lm0.blk) : w0.heap.size ≤ b := by
  rcases Nat.lt_or_ge b w0.heap.size with x | x
  · exact absurd (h.owned hb) (h.ini.own b x)
  · exact x

/-- what the rounds see -/
theorem LCtx.inner0 (h : LCtx P K w0 fn nt g0 p ι s ws r m m0 lr lm lm0 c c0 srcE es0 kk Z nxE) : SRel P ι ⟨innerH s.h r m m0, s.nx, s.nx⟩ ws := by
  obtain ⟨es, hm⟩ := h.gm
  have hget : ∀ id o, (innerH s.h r m m0).get id = some o → (o = .hole ∧ (id = m ∨ id = m0)) ∨ (s.h.get id = some o ∧ id ≠ r ∧ id ≠ m ∧ id ≠ m0) := by
    intro id o hg
    rw [innerH_get] at hg
    by_cases e1 : id = m0
    · rw [if_pos e1] at hg; cases hg; exact .inl ⟨rfl, .inr e1⟩
    · rw [if_neg e1] at hg
      by_cases e2 : id = m
      · rw [if_pos e2] at hg; cases hg; exact .inl ⟨rfl, .inl e2⟩
      · rw [if_neg e2] at hg
        by_cases e3 : id = r
        · rw [if_pos e3] at hg; cases hg
        · rw [if_neg e3] at hg; exact .inr ⟨hg, e3, e2, e1⟩
  refine ⟨?_, h.srel.fresh, h.srel.bound, ?_, ?_⟩
  · intro id l o hi hg
    rcases hget id o hg with ⟨rfl, e | e⟩ | ⟨x, _⟩
    · subst e; rw [h.im] at hi; cases hi; exact ⟨_, h.src, .hole⟩
    · subst e; rw [h.im0] at hi; cases hi
      obtain ⟨dE, hd⟩ := h.dst
      exact ⟨_, hd, .hole⟩
    · exact h.srel.obj id l o hi x
  · intro id1 id2 l1 l2 o1 o2 hne i1 i2 hbl g1 g2
    rcases hget id1 o1 g1 with ⟨rfl, e⟩ | ⟨x, x1, x2, x3⟩
    · rcases hget id2 o2 g2 with ⟨rfl, e'⟩ | ⟨y, _⟩
      · exfalso
        rcases e with rfl | rfl <;> rcases e' with rfl | rfl
        · exact hne rfl
        · rw [h.im] at i1; rw [h.im0] at i2; cases i1; cases i2; exact h.blk_mm0 hbl
        · rw [h.im0] at i1; rw [h.im] at i2; cases i1; cases i2; exact h.blk_mm0 hbl.symm
        · exact hne rfl
      · rcases e with rfl | rfl
        · exact .inr (.inl (h.srel.alone i1 i2 hne hbl hm y (by intro x; simp)))
        · exact .inr (.inl (h.srel.alone i1 i2 hne hbl h.gm0 y (by intro x; simp)))
    · rcases hget id2 o2 g2 with ⟨rfl, e'⟩ | ⟨y, _⟩
      · rcases e' with rfl | rfl
        · exact .inl (h.srel.alone i2 i1 (Ne.symm hne) hbl.symm hm x (by intro x; simp))
        · exact .inl (h.srel.alone i2 i1 (Ne.symm hne) hbl.symm h.gm0 x (by intro x; simp))
      · exact h.srel.alias id1 id2 l1 l2 o1 o2 hne i1 i2 hbl x y
  · intro id o q hg hi hd hp
    rcases hget id o hg with ⟨rfl, _⟩ | ⟨x, _⟩
    · simp [Par] at hp
    · obtain ⟨y1, y2⟩ := h.srel.par id o q x hi hd hp
      refine ⟨y1, fun o' ho' => ?_⟩
      rcases hget q o' ho' with ⟨rfl, e | e⟩ | ⟨z, _⟩
      · subst e; obtain ⟨b, e, _⟩ := y2 _ hm; cases e
      · subst e; obtain ⟨b, e, _⟩ := y2 _ h.gm0; cases e
      · exact y2 o' z

theorem newEs_append (a b : List RD) : newEs (a ++ b) = newEs a ++ newEs b := by simp [newEs]

theorem LI.start (h : LCtx P K w0 fn nt g0 p ι s ws r m m0 lr lm lm0 c c0 srcE es0 kk Z nxE) {tmps : Array Value} (ht : TmpRel ι g0 tmps) (hn : tmps.size = nt) :
    LI P g0 nt ι s ws r m m0 lr lm c c0 srcE es0 nxE [] ι (T.setF (Nat.succ r) s.h r none) ws tmps := by
  have hget : ∀ id, (T.setF (Nat.succ r) s.h r none).get id = if id = r then none else s.h.get id := fun id => T.get_setF _ _ _ _ _ (Nat.lt_succ_self r)
  have hle := h.chn.le.1
  refine ⟨⟨?_, fun id hi => h.srel.fresh id (Nat.le_trans hle hi), h.srel.bound, ?_, ?_⟩, h.inner0, fun _ _ => rfl, fun id _ hr _ => by rw [hget, if_neg hr], by rw [hget, if_pos rfl], ?_, ?_, fun z hz => by simp at hz, h.iter, h.src, fun _ _ _ => rfl, Nat.le_refl _, rfl, rfl, rfl, ht, hn⟩
  · intro id l o hi hg
    simp only at hg; rw [hget] at hg
    by_cases e : id = r
    · rw [if_pos e] at hg; cases hg
    · rw [if_neg e] at hg; exact h.srel.obj id l o hi hg
  · intro id1 id2 l1 l2 o1 o2 hne i1 i2 hb g1 g2
    simp only at g1 g2; rw [hget] at g1 g2
    by_cases e1 : id1 = r
    · rw [if_pos e1] at g1; cases g1
    · by_cases e2 : id2 = r
      · rw [if_pos e2] at g2; cases g2
      · rw [if_neg e1] at g1; rw [if_neg e2] at g2
        exact h.srel.alias id1 id2 l1 l2 o1 o2 hne i1 i2 hb g1 g2
  · intro id o q hg hi hd hp
    simp only at hg; rw [hget] at hg
    by_cases e : id = r
    · rw [if_pos e] at hg; cases hg
    · rw [if_neg e] at hg
      obtain ⟨y1, y2⟩ := h.srel.par id o q hg hi hd hp
      refine ⟨y1, fun o' ho' => ?_⟩
      simp only at ho'; rw [hget] at ho'
      by_cases e2 : q = r
      · rw [if_pos e2] at ho'; cases ho'
      · rw [if_neg e2] at ho'; exact y2 o' ho'
  · rw [hget, if_neg (Ne.symm h.rm0)]; simpa [newEs] using h.gm0
  · intro id l hi hs; rw [h.srel.fresh id hi] at hs; cases hs

/-- the ranges of two rounds lie apart -/
theorem LCtx.apart (h : LCtx P K w0 fn nt g0 p ι s ws r m m0 lr lm lm0 c c0 srcE es0 kk Z nxE) {Zd A B : List (RD × MapEntry)} {z : RD × MapEntry} (hp : (Zd ++ (A ++ z :: B)).Perm Z) :
    s.nx ≤ z.1.nx ∧ z.1.nx ≤ z.1.nx' ∧ z.1.nx' ≤ nxE ∧ ∀ y ∈ Zd, s.nx ≤ y.1.nx ∧ y.1.nx ≤ y.1.nx' ∧ y.1.nx' ≤ nxE ∧ (y.1.nx' ≤ z.1.nx ∨ z.1.nx' ≤ y.1.nx) := by
  have hz : z ∈ Z := hp.mem_iff.1 (by simp)
  have hle := h.chn.le.2
  have h1 := hle z.1 (List.mem_map_of_mem hz)
  refine ⟨h1.1, h1.2.1, h1.2.2, fun y hy => ?_⟩
  have hyZ : y ∈ Z := hp.mem_iff.1 (by simp [hy])
  have h2 := hle y.1 (List.mem_map_of_mem hyZ)
  refine ⟨h2.1, h2.2.1, h2.2.2, ?_⟩
  have hpw : (Z.map (·.1)).Pairwise fun a b => a.nx' ≤ b.nx ∨ b.nx' ≤ a.nx := h.chn.apart.imp fun x => .inl x
  rw [List.pairwise_map] at hpw
  have hpw2 := (List.Perm.pairwise_iff (R := fun a b : RD × MapEntry => a.1.nx' ≤ b.1.nx ∨ b.1.nx' ≤ a.1.nx) (fun {_ _} x => Or.symm x) hp.symm).1 hpw
  rw [List.pairwise_append] at hpw2
  exact hpw2.2.2 y hy z (by simp)

end
end Go.AM
