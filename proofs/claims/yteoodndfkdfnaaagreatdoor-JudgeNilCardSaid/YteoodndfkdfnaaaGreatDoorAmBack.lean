/- From a longer run back to a shorter one. -/
import Derived.Test.YteoodndfkdfnaaaGreatDoorAmStep2
namespace Go.AM
variable {P : Program}

mutual
theorem VRel.back {ι ι' : Inj} (hx : Ext ι ι') {v x y : Value} (h : VRel ι v x) (k : VRel ι' v y) : VRel ι v y := by
  cases h with
  | poi => exact .poi _
  | bool => cases k; exact .bool _
  | int => cases k; exact .int _ _
  | string => cases k; exact .string _
  | nilptr => cases k; exact .nilptr
  | nilslice => cases k; exact .nilslice _ _
  | nilmap => cases k; exact .nilmap
  | nilFunc => cases k; exact .nilFunc
  | nilIface => cases k; exact .nilIface
  | ptr a =>
    cases k with
    | ptr b => have := hx _ _ a; rw [this] at b; cases b; exact .ptr a
  | slice a b c d e f =>
    cases k with
    | slice a2 b2 c2 d2 e2 f2 => have := hx _ _ a; rw [this] at a2; cases a2; exact .slice a b2 c2 d2 e2 f2
  | map a =>
    cases k with
    | map b => have := hx _ _ a; rw [this] at b; cases b; exact .map a
  | func a b =>
    cases k with
    | func c d => exact .func (VRelL.back hx a c) (VRelL.back hx b d)
  | yield a =>
    cases k with
    | yield b => have := hx _ _ a; rw [this] at b; cases b; exact .yield a
  | iface a =>
    cases k with
    | iface b => exact .iface (VRel.back hx a b)
  | agg a =>
    cases k with
    | agg b => exact .agg (VRelL.back hx a b)
  | tuple a =>
    cases k with
    | tuple b => exact .tuple (VRelL.back hx a b)
theorem VRelL.back {ι ι' : Inj} (hx : Ext ι ι') {v x y : List Value} (h : VRelL ι v x) (k : VRelL ι' v y) : VRelL ι v y := by
  cases h with
  | nil => cases k; exact .nil
  | cons a b =>
    cases k with
    | cons c d => exact .cons (VRel.back hx a c) (VRelL.back hx b d)
end

theorem EsRel.back {ι ι' : Inj} (hx : Ext ι ι') : ∀ {es : List (Value × Value)} {l l' : List MapEntry}, EsRel ι es l → EsRel ι' es l' → EsRel ι es l'
  | _, _, _, .nil, .nil => .nil
  | _, _, _, .cons a b c, .cons a' b' c' => .cons (a.back hx a') (b.back hx b') (c.back hx c')

theorem ORel.back {ι ι' : Inj} (hx : Ext ι ι') {l : Loc} {o : AObj} {x y : Obj} (h : ORel P ι l o x) (k : ORel P ι' l o y) : ORel P ι l o y := by
  cases h with
  | dead _ hd => exact .dead _ hd
  | blk a b c d =>
    cases k with
    | dead _ hd => exact .dead _ hd
    | blk a2 b2 c2 d2 =>
      refine .blk a2 b2 (fun i v hi hn => ?_) d2
      obtain ⟨v1, _, r1⟩ := c i v hi hn
      obtain ⟨v2, e2, r2⟩ := c2 i v hi hn
      exact ⟨v2, e2, r1.back hx r2⟩
  | map a b c d e =>
    cases k with
    | map a2 b2 c2 d2 e2 => exact .map a2 (b.back hx b2) c2 d2 e2
  | hole => cases k; exact .hole
  | iter a b =>
    cases k with
    | iter a2 b2 => have := hx _ _ b; rw [this] at b2; cases b2; exact .iter a b
  | loop a b c =>
    cases k with
    | loop a2 b2 c2 => have := hx _ _ c; rw [this] at c2; cases c2; exact .loop a2 (fun t => (b t).back hx (b2 t)) c
  | defS => cases k; exact .defS
  | defN => cases k; exact .defN

/-- what a run of its own leaves of the old state -/
theorem SRel.restrict {ι ι' : Inj} {s s' : S} {w w' : World} (h : SRel P ι s w) (k : SRel P ι' s' w') (hx : Ext ι ι') (hg : ∀ id, ι id ≠ none → s'.h.get id = s.h.get id) (hsz : w.heap.size ≤ w'.heap.size) : SRel P ι s w' := by
  refine ⟨?_, h.fresh, fun id l a => Nat.lt_of_lt_of_le (h.bound id l a) hsz, h.alias, h.par⟩
  intro id l o a b
  obtain ⟨o1, _, r1⟩ := h.obj id l o a b
  obtain ⟨o2, q2, r2⟩ := k.obj id l o (hx _ _ a) (by rw [hg id (by rw [a]; simp)]; exact b)
  exact ⟨o2, q2, r1.back hx r2⟩

theorem EsRel.perm {ι : Inj} {es es2 : List (Value × Value)} (hp : es.Perm es2) : ∀ {l : List MapEntry}, EsRel ι es l → ∃ l2, l2.Perm l ∧ EsRel ι es2 l2 := by
  induction hp with
  | nil => intro l h; exact ⟨l, .refl _, h⟩
  | cons x _ ih =>
    intro l h
    cases h with
    | cons a b c =>
      obtain ⟨l2, p, r⟩ := ih c
      exact ⟨_, p.cons _, .cons a b r⟩
  | swap x y l0 =>
    intro l h
    cases h with
    | cons a b c =>
      cases c with
      | cons d e f => exact ⟨_, .swap _ _ _, .cons d e (.cons a b f)⟩
  | trans _ _ ih1 ih2 =>
    intro l h
    obtain ⟨l2, p2, r2⟩ := ih1 h
    obtain ⟨l3, p3, r3⟩ := ih2 r2
    exact ⟨l3, p3.trans p2, r3⟩

/-! ### runs -/

variable {B : Base} {w0 : World} {K : Known}

theorem runB_ok (hK : KnownOk P K w0) (hmix : P.follows .mixedOrders = true) : ∀ (n : Nat) {ι : Inj} {hb : Nat} {sf : Suf} {fr : Fr} {rest : List Fr} {s : S} {top : Frame} {cs : List Frame} {w : World},
    RSt P B w0 ι hb sf fr rest s top cs w → ResPost' P B w0 ι s w (lone top cs w) (match runB P K n ⟨fr :: rest, s⟩ with | .next _ => .bad 0 | r => r)
  | 0, ι, hb, sf, fr, rest, s, top, cs, w, h => by simp only [runB]; trivial
  | n + 1, ι, hb, sf, fr, rest, s, top, cs, w, h => by
    have hs := step_ok hK hmix h
    simp only [runB]
    cases hr : AM.step P K ⟨fr :: rest, s⟩ with
    | next st =>
      rw [hr] at hs
      obtain ⟨frs, s1⟩ := st
      obtain ⟨ι1, hb1, sf1, fr1, rest1, top1, cs1, w1, rfl, h1, h2, h3⟩ := hs
      simp only []
      exact .of_steps h1 h3 (runB_ok hK hmix n h2)
    | idle fr s => rw [hr] at hs; exact hs
    | stop fr s => rw [hr] at hs; exact hs
    | upd fr s r k x => rw [hr] at hs; exact hs
    | bad n => trivial

theorem clearT_get : ∀ (l : List Tmp) (g : T Value) (t : Tmp), ev (clearT l g) (.tmp t) = ev g (.tmp t) ∨ ev (clearT l g) (.tmp t) = poi
  | [], g, t => .inl rfl
  | a :: l, g, t => by
    simp only [clearT]
    rcases clearT_get l (g.set a poi) t with x | x
    · rw [x, ev_set]
      by_cases e : t = a
      · exact .inr (by rw [if_pos e])
      · exact .inl (by rw [if_neg e])
    · exact .inr x
theorem clearT_rel {ι : Inj} {g : T Value} {tmps : Array Value} (l : List Tmp) (h : TmpRel ι g tmps) : TmpRel ι (clearT l g) tmps := by
  intro t
  rcases clearT_get l g t with x | x
  · rw [x]; exact h t
  · rw [x]; exact .poi _
theorem clearT_mem : ∀ {l : List Tmp} {g : T Value} {t : Tmp}, t ∈ l → ev (clearT l g) (.tmp t) = poi
  | a :: l, g, t, h => by
    simp only [clearT]
    rcases List.mem_cons.1 h with rfl | h
    · rcases clearT_get l (g.set t poi) t with x | x
      · rw [x, ev_set, if_pos rfl]
      · exact x
    · exact clearT_mem h
  | [], _, _, h => by simp at h

theorem keptT_spec {g0 g1 : T Value} : ∀ {n : Nat}, keptT g0 g1 n = true → ∀ t : Nat, t < n → ev g0 (.tmp t) = poi ∨ ev g0 (.tmp t) = ev g1 (.tmp t)
  | 0, _, t, h => absurd h (Nat.not_lt_zero _)
  | n + 1, hk, t, h => by
    simp only [keptT, Bool.and_eq_true, Bool.or_eq_true] at hk
    rcases Nat.lt_succ_iff_lt_or_eq.1 h with x | rfl
    · exact keptT_spec hk.2 t x
    · rcases hk.1 with x | x
      · refine .inl ?_
        generalize ev g0 (.tmp t) = v at x
        cases v with
        | chan c => cases c with
          | none => rfl
          | some _ => simp [isPoi] at x
        | _ => simp [isPoi] at x
      · exact .inr (sameV_eq _ _ _ x)

/-- the temporaries behind a round -/
theorem kept_rel {ι ι' : Inj} (hx : Ext ι ι') {g0 g1 : T Value} {tmps tmps' : Array Value} {nt : Nat} (hn : tmps.size = nt) (hn' : tmps'.size = nt) (h : TmpRel ι g0 tmps) (h' : TmpRel ι' g1 tmps') (hk : keptT g0 g1 nt = true) : TmpRel ι g0 tmps' := by
  intro t
  by_cases ht : t < nt
  · rcases keptT_spec hk t ht with x | x
    · rw [x]; exact .poi _
    · refine (h t).back hx ?_
      rw [x]; exact h' t
  · have e1 : tmps'.getD t undef = undef := by
      have : ¬ t < tmps'.size := by rw [hn']; exact ht
      simp only [Array.getD, this, dite_false]
    have e2 : tmps.getD t undef = undef := by
      have : ¬ t < tmps.size := by rw [hn]; exact ht
      simp only [Array.getD, this, dite_false]
    rw [e1, ← e2]; exact h t

end Go.AM
