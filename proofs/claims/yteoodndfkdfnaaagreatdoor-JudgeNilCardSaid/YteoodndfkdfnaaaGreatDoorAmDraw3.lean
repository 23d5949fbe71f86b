/- Regions that draw: a whole run. -/
import Derived.Test.YteoodndfkdfnaaaGreatDoorAmDraw2
namespace Go.AM
variable {P : Program}

/-- the hard ones from the p-th on -/
def hsFrom (P : Program) (nt : Nat) (all : Array Oper) (H : List Nat) (p : Nat) : List Cl := pick (mkCls P nt all all.toList) (H.drop p)

variable {nt : Nat} {all : Array Oper} {bs H : List Nat} {hb : Nat} {ι : Inj} {s : S} {g : T Value} {tmps : Array Value} {E : Nat → Bool} {p : Nat} {a : Nat → Option Nat} {w : World}

theorem hsFrom_cons {i : Nat} {o : Oper} (h : H[p]? = some i) (ho : all[i]? = some o) : hsFrom P nt all H p = mkCl P nt all o :: hsFrom P nt all H (p + 1) := by
  have hlt : p < H.length := by
    rcases Nat.lt_or_ge p H.length with x | x
    · exact x
    · rw [List.getElem?_eq_none x] at h; cases h
  unfold hsFrom
  rw [List.drop_eq_getElem_cons hlt]
  rw [List.getElem?_eq_getElem hlt] at h
  simp only [Option.some.injEq] at h
  rw [h]
  have : (mkCls P nt all all.toList)[i]? = some (mkCl P nt all o) := by
    rw [mkCls_drop, List.getElem?_map, Array.getElem?_toList, ho]; rfl
  simp only [pick, this]
theorem hsFrom_nil (h : H.length ≤ p) : hsFrom P nt all H p = [] := by
  unfold hsFrom; rw [List.drop_eq_nil_of_le h]; rfl

theorem dnf_next : dnf P nt all bs H p all.size = dnf P nt all bs H (p + 1) 0 := by
  funext i
  simp only [dnf]
  cases hs : soft P nt all i with
  | false => rfl
  | true =>
    obtain ⟨o, ho, _⟩ := soft_some hs
    have hil : i < all.size := by
      rcases Nat.lt_or_ge i all.size with x | x
      · exact x
      · rw [Array.getElem?_eq_none x] at ho; cases ho
    have : (decide (lof bs H i < p) || (decide (lof bs H i = p) && decide (i < all.size))) = (decide (lof bs H i < p + 1) || (decide (lof bs H i = p + 1) && decide (i < 0))) := by
      rw [Bool.eq_iff_iff]
      simp only [Bool.or_eq_true, Bool.and_eq_true, decide_eq_true_eq]
      omega
    rw [this]

/-- before the p-th phase -/
def Before (P : Program) (nt : Nat) (all : Array Oper) (hb : Nat) (ι : Inj) (s : S) (g : T Value) (tmps : Array Value) (ops : List Dop) (p : Nat) (hs : List Cl) (L : List Nat) : Prop :=
  ∃ bs H E a, PF P nt all bs H ∧ ops = dopsFrom P nt all bs H 0 ∧ hs = hsFrom P nt all H p ∧ Lin all L E ∧ Dr P nt all bs H hb ι s g tmps E (dnf P nt all bs H p 0) p a
/-- behind it, where a hard one is under way -/
def Within (P : Program) (nt : Nat) (all : Array Oper) (hb : Nat) (ι : Inj) (s : S) (g : T Value) (tmps : Array Value) (ops : List Dop) (p : Nat) (hs : List Cl) (i : Nat) (L : List Nat) (o : Oper) : Prop :=
  ∃ bs H E a gd, PF P nt all bs H ∧ ops = dopsFrom P nt all bs H 0 ∧ hs = ⟨cr P o.op, o.dst, gd⟩ :: hsFrom P nt all H (p + 1) ∧ H[p]? = some i ∧ all[i]? = some o ∧ dstOk nt o.dst = true ∧
    isHd (cr P o.op) = true ∧ (∀ j, Bf bs i j = true → E j = true) ∧ E i = false ∧ Lin all L (up1 E i) ∧ Dr P nt all bs H hb ι s g tmps E (dnf P nt all bs H p all.size) p a

/-- what becomes of it with time -/
structure Fut (hb : Nat) (ι : Inj) (s : S) (ι' : Inj) (s' : S) : Prop where
  ext : Ext ι ι'
  keep : ∀ id, id < hb → ι id = none → ι' id = none ∧ s'.h.get id = s.h.get id
  nx : s.nx ≤ s'.nx
theorem Fut.refl (hb : Nat) (ι : Inj) (s : S) : Fut hb ι s ι s := ⟨Ext.refl _, fun _ _ h => ⟨h, rfl⟩, Nat.le_refl _⟩
theorem Fm.fut {hb : Nat} {ι ι' : Inj} {s s' : S} {w w' : World} (h : Fm hb ι s w ι' s' w') : Fut hb ι s ι' s' := ⟨h.ext, h.keep, h.nx⟩
theorem Fut.trans {hb : Nat} {ι ι' ι'' : Inj} {s s' s'' : S} (h : Fut hb ι s ι' s') (k : Fut hb ι' s' ι'' s'') : Fut hb ι s ι'' s'' :=
  ⟨h.ext.trans k.ext, fun id hi hn => let x := h.keep id hi hn; let y := k.keep id hi x.1; ⟨y.1, y.2.trans x.2⟩, Nat.le_trans h.nx k.nx⟩
theorem Fut.weaken {hb hb' : Nat} {ι ι' : Inj} {s s' : S} (h : Fut hb ι s ι' s') (hle : hb' ≤ hb) : Fut hb' ι s ι' s' := ⟨h.ext, fun id hi hn => h.keep id (Nat.lt_of_lt_of_le hi hle) hn, h.nx⟩

theorem hdNotSoft {nt : Nat} {all : Array Oper} {i : Nat} {o : Oper} {gd : Gd} (ho : all[i]? = some o) (hc : mkCl P nt all o = ⟨cr P o.op, o.dst, gd⟩) (hh : isHd (cr P o.op) = true) : soft P nt all i = false := by
  simp [soft, ho, hc, hh]

theorem mkCl_hd {nt : Nat} {all : Array Oper} {o : Oper} (hh : isHd (mkCl P nt all o).r = true) :
    ∃ gd, mkCl P nt all o = ⟨cr P o.op, o.dst, gd⟩ ∧ mkGd all o.guard = some gd ∧ dstOk nt o.dst = true ∧ gdOk nt gd = true ∧ isHd (cr P o.op) = true := by
  rcases mkCl_cases (P := P) nt all o with hc | ⟨gd, hc, hm, hd, hg⟩
  · rw [hc] at hh; simp [isHd, rdNo] at hh
  · exact ⟨gd, hc, hm, hd, hg, by rw [hc] at hh; exact hh⟩

/-- the hard one is done -/
theorem Dr.hard (hp : PF P nt all bs H) (h : Dr P nt all bs H hb ι s g tmps E (dnf P nt all bs H p all.size) p a) {i : Nat} {o : Oper} (hi : H[p]? = some i) (ho : all[i]? = some o) (hd : dstOk nt o.dst = true)
    (hns : soft P nt all i = false) (hrdy : ∀ j, Bf bs i j = true → E j = true) (hE : E i = false) {ι' : Inj} {s' : S} (hF : Fut s.nx ι s ι' s') {v v' : Value} (hv : VRel ι' v v') :
    Dr P nt all bs H hb ι' s' (putD g o.dst v) (pt tmps o.dst v') (up1 E i) (dnf P nt all bs H (p + 1) 0) (p + 1) a := by
  rw [← dnf_next]
  have hpl : p < H.length := by
    rcases Nat.lt_or_ge p H.length with x | x
    · exact x
    · rw [List.getElem?_eq_none x] at hi; cases hi
  have hndn : dnf P nt all bs H p all.size i ≠ true := fun x => by rw [dnf_soft x] at hns; cases hns
  refine h.conc hp ho hd hE hrdy hF.ext (fun t ht => ev_putD_ne ht) (fun x => absurd x hndn) (fun d hdd => by rw [ev_putD_eq d hdd]; exact hv) (by omega) ?_ (fun x => by rw [hns] at x; cases x) ?_ hF.nx
  · intro kk j hk
    by_cases e : j = i
    · subst e
      rw [up1_self]
      have : kk = p := by
        rcases Nat.lt_trichotomy kk p with x | x | x
        · have := hp.lt (hp.chain_lt x hk hi); omega
        · exact x
        · have := hp.lt (hp.chain_lt x hi hk); omega
      simp [this]
    · rw [up1_ne e, h.hrd kk j hk]
      have : kk ≠ p := fun x => by subst x; rw [hi] at hk; cases hk; exact e rfl
      omega
  · intro j id _ _ haj hn
    exact hF.keep id (h.alt j id haj) hn

/-- a hard one that is under way is answered -/
theorem Within.finish {ops : List Dop} {hs : List Cl} {i : Nat} {L : List Nat} {o : Oper} (h : Within P nt all hb ι s g tmps ops p hs i L o) {ι' : Inj} {s' : S} (hF : Fut s.nx ι s ι' s') {v v' : Value} (hv : VRel ι' v v') :
    ∃ c hs', hs = c :: hs' ∧ c.dst = o.dst ∧ Before P nt all hb ι' s' (putD g o.dst v) (pt tmps o.dst v') ops (p + 1) hs' L := by
  obtain ⟨bs, H, E, a, gd, hp, h1, h2, h3, h4, h5, h6, h7, h8, h9, h10⟩ := h
  refine ⟨_, _, h2, rfl, bs, H, up1 E i, a, hp, h1, rfl, h9, ?_⟩
  refine h10.hard hp h3 h4 h5 ?_ h7 h8 hF hv
  obtain ⟨o', ho', hh⟩ := hp.hard' i (List.mem_of_getElem? h3)
  rw [h4] at ho'; cases ho'
  simp [soft, h4, hh]

theorem clearD_get {nt : Nat} {all : Array Oper} {bs H : List Nat} : ∀ (n j : Nat), j + n = all.size → ∀ (g : T Value) (t : Tmp), 
    ev (clearD (dopsFrom P nt all bs H j) g) (.tmp t) = ev g (.tmp t) ∨ ev (clearD (dopsFrom P nt all bs H j) g) (.tmp t) = poi
  | 0, j, hj, g, t => by rw [dopsFrom_nil (by omega)]; exact .inl rfl
  | n + 1, j, hj, g, t => by
    have ho' : all[j]? = some (all[j]'(by omega)) := Array.getElem?_eq_getElem (by omega)
    generalize all[j]'(by omega) = o1 at ho'
    rw [dopsFrom_cons ho']
    simp only [clearD]
    rcases clearD_get n (j + 1) (by omega : j + 1 + n = all.size) (putD g (mkCl P nt all o1).dst poi) t with x | x
    · rw [x]
      by_cases e : (mkCl P nt all o1).dst = some t
      · exact .inr (ev_putD_eq t e)
      · exact .inl (ev_putD_ne e)
    · exact .inr x
theorem clearD_poi {nt : Nat} {all : Array Oper} {bs H : List Nat} : ∀ (n j : Nat), j + n = all.size → ∀ (g : T Value) (t : Tmp), (∃ i o, j ≤ i ∧ all[i]? = some o ∧ (mkCl P nt all o).dst = some t) →
    ev (clearD (dopsFrom P nt all bs H j) g) (.tmp t) = poi
  | 0, j, hj, g, t, ⟨i, o, h1, h2, _⟩ => by rw [Array.getElem?_eq_none (by omega)] at h2; cases h2
  | n + 1, j, hj, g, t, ⟨i, o, h1, h2, h3⟩ => by
    have ho' : all[j]? = some (all[j]'(by omega)) := Array.getElem?_eq_getElem (by omega)
    generalize all[j]'(by omega) = o1 at ho'
    rw [dopsFrom_cons ho']
    simp only [clearD]
    by_cases e : i = j
    · subst e
      rw [ho'] at h2; cases h2
      rcases clearD_get (P := P) (nt := nt) (all := all) (bs := bs) (H := H) n (i + 1) (by omega) (putD g (mkCl P nt all o).dst poi) t with x | x
      · rw [x]; exact ev_putD_eq t h3
      · exact x
    · exact clearD_poi n (j + 1) (by omega) _ t ⟨i, o, by omega, h2, h3⟩

/-- a region that is left -/
theorem Within.clear {ops : List Dop} {hs : List Cl} {i : Nat} {L : List Nat} {o : Oper} (h : Within P nt all hb ι s g tmps ops p hs i L o) : TmpRel ι (clearD ops g) tmps := by
  obtain ⟨bs, H, E, a, gd, hp, h1, h2, h3, h4, h5, h6, h7, h8, h9, h10⟩ := h
  subst h1
  intro t
  rcases clearD_get (P := P) (nt := nt) (all := all) (bs := bs) (H := H) all.size 0 (by omega) g t with x | x
  · by_cases e : ∃ (j : Nat) (oj : Oper), all[j]? = some oj ∧ oj.dst = some t ∧ dnf P nt all bs H p all.size j = true ∧ E j = false
    · obtain ⟨j, oj, q1, q2, q3, q4⟩ := e
      obtain ⟨gd', r1, _⟩ := h10.pend j oj q1 q3 q4
      rw [clearD_poi all.size 0 (by omega) g t ⟨j, oj, Nat.zero_le _, q1, by rw [r1]; exact q2⟩]
      exact .poi _
    · rw [x]
      refine h10.tmp t fun j oj q1 q2 q3 => ?_
      cases hE : E j with
      | true => rfl
      | false => exact absurd ⟨j, oj, q1, q2, q3, hE⟩ e
  · rw [x]; exact .poi _

def DrawPost (P : Program) (hb : Nat) (fn : FuncId) (kind : CallKind) (ds : List Deferred) (all : Array Oper) (nt : Nat) (ops : List Dop) (k : List Item) (cs : List Frame) (ι : Inj) (s : S) (w : World) (m : Machine) : DR → Prop
  | .fin g' s' => ∃ ι' w' tmps', OpsRun P hb fn kind ds all nt k cs ι s w m g' s' ι' w' tmps' k
  | .at_ p' hs' g' s' r => ∃ ι' w' tmps' i L o, Steps P m (lone (mkF fn kind tmps' ds (.inRegion all (i :: L) :: k)) cs w') ∧ SRel P ι' s' w' ∧ Fm hb ι s w ι' s' w' ∧ tmps'.size = nt ∧
      Within P nt all hb ι' s' g' tmps' ops p' hs' i L o ∧ AtOp P ι' s' w' all tmps' i o r
  | .bad _ => True

theorem DrawPost.of_steps {fn : FuncId} {kind : CallKind} {ds : List Deferred} {ops : List Dop} {k : List Item} {cs : List Frame} {ι1 : Inj} {s1 : S} {w1 : World} {m m1 : Machine} {r : DR}
    (h : Steps P m m1) (f : Fm hb ι s w ι1 s1 w1) (k' : DrawPost P hb fn kind ds all nt ops k cs ι1 s1 w1 m1 r) : DrawPost P hb fn kind ds all nt ops k cs ι s w m r := by
  cases r with
  | fin g s => obtain ⟨a, b, c, d⟩ := k'; exact ⟨a, b, c, h.trans d.steps, d.tmps, d.size, d.srel, f.trans d.fm⟩
  | at_ p l g s r => obtain ⟨a, b, c, i, L, o, d1, d2, d3, d4, d5, d6⟩ := k'; exact ⟨a, b, c, i, L, o, h.trans d1, d2, f.trans d3, d4, d5, d6⟩
  | bad => trivial

theorem sim_draw {fn : FuncId} {kind : CallKind} {ds : List Deferred} {k : List Item} {cs : List Frame} {ops : List Dop} :
    ∀ (hs : List Cl) (p : Nat) (g : T Value) (s : S) (ι : Inj) (w : World) (tmps : Array Value) (L : List Nat), Before P nt all hb ι s g tmps ops p hs L → SRel P ι s w → hb ≤ s.nx → s.lo ≤ s.nx →
      DrawPost P hb fn kind ds all nt ops k cs ι s w (lone (mkF fn kind tmps ds (.inRegion all L :: k)) cs w) (runDraw ops p hs g s) := by
  intro hs
  induction hs with
  | nil =>
    intro p g s ι w tmps L hB hS hhb hlo
    obtain ⟨bs, H, E, a, hp, h1, h2, h3, h4⟩ := hB
    simp only [runDraw]
    unfold phase
    cases hph : ph1 p ops g s with
    | none => trivial
    | some gs =>
      obtain ⟨g', s'⟩ := gs
      simp only []
      cases hph2 : ph2 p ops g' s' with
      | false => trivial
      | true =>
        simp only [cond_true]
        rw [h1] at hph hph2
        obtain ⟨a', r1, r2, r3⟩ := ph1_ok (p := p) hp all.size 0 (by omega) g s a h4 hS hhb hlo g' s' hph
        have hR : RdF P nt all bs H g' s' p := fun i o f gd x y z u => ph2_ok all.size 0 (by omega) hph2 i o f gd (Nat.zero_le _) x y z u
        have hlen : H.length ≤ p := by
          rcases Nat.lt_or_ge p H.length with x | x
          · exfalso
            have e : H[p]? = some H[p] := List.getElem?_eq_getElem x
            obtain ⟨o, ho, _⟩ := hp.hard' _ (List.mem_of_getElem? e)
            rw [hsFrom_cons e ho] at h2; cases h2
          · exact x
        rcases run_soft (fn := fn) (kind := kind) (ds := ds) (k := k) (cs := cs) hp hR L E ι w tmps h3 r1 r2 with ⟨ι2, w2, t2, a0, a1, a2, a3, a4, a5⟩ | ⟨ι2, w2, t2, E2, i2, L2, o2, a1, _⟩
        · exact ⟨ι2, w2, t2, a1, a2, a3, a4, (r3 hb hhb).trans a5⟩
        · rw [List.getElem?_eq_none hlen] at a1; cases a1
  | cons c hs ih =>
    intro p g s ι w tmps L hB hS hhb hlo
    obtain ⟨bs, H, E, a, hp, h1, h2, h3, h4⟩ := hB
    obtain ⟨r, dst, gd⟩ := c
    simp only [runDraw]
    unfold phase
    cases hph : ph1 p ops g s with
    | none => trivial
    | some gs =>
      obtain ⟨g', s'⟩ := gs
      simp only []
      cases hph2 : ph2 p ops g' s' with
      | false => trivial
      | true =>
        simp only [cond_true]
        rw [h1] at hph hph2
        obtain ⟨a', r1, r2, r3⟩ := ph1_ok (p := p) hp all.size 0 (by omega) g s a h4 hS hhb hlo g' s' hph
        have hR : RdF P nt all bs H g' s' p := fun i o f gd x y z u => ph2_ok all.size 0 (by omega) hph2 i o f gd (Nat.zero_le _) x y z u
        have hlt : p < H.length := by
          rcases Nat.lt_or_ge p H.length with x | x
          · exact x
          · rw [hsFrom_nil x] at h2; cases h2
        have hF0 := r3 hb hhb
        have hnx' := hF0.nx
        have hlo' := hF0.lo
        rcases run_soft (fn := fn) (kind := kind) (ds := ds) (k := k) (cs := cs) hp hR L E ι w tmps h3 r1 r2 with ⟨ι2, w2, t2, a0, a1, a2, a3, a4, a5⟩ | ⟨ι2, w2, t2, E2, i, L2, o, a1, a2, a3, a4, a5, a6, a7, a8, a9, a10⟩
        · -- it has come to its end, though a hard one is left
          rw [List.getElem?_eq_getElem hlt] at a0; cases a0
        · obtain ⟨o', ho', hh⟩ := hp.hard' i (List.mem_of_getElem? a1)
          rw [a2] at ho'; cases ho'
          obtain ⟨gd', q1, q2, q3, q4, q5⟩ := mkCl_hd hh
          rw [hsFrom_cons a1 a2, q1] at h2
          simp only [List.cons.injEq, Cl.mk.injEq] at h2
          obtain ⟨⟨rfl, rfl, rfl⟩, h2⟩ := h2
          have hns := hdNotSoft a2 q1 q5
          obtain ⟨f, hf⟩ : ∃ f, cr P o.op = .hd f := by
            cases hc : cr P o.op with
            | hd f => exact ⟨f, rfl⟩
            | _ => rw [hc] at q5; simp [isHd] at q5
          have hrd := a8.reads hp a2 (mv_of_hd hf) a4
          cases hgt : gdT gd g' with
          | none => trivial
          | some b =>
            have hw := gd_rel' q2 q4 a8.size (fun d b e => hrd d (reads_gd (by rw [q2, e]))) hgt
            cases b with
            | false =>
              simp only []
              refine .of_steps (a7.trans (.one (st_skip a2 hw))) (hF0.trans a10) ?_
              have hx := a10.nx
              have hy := a10.lo
              refine ih (p + 1) _ _ _ _ _ L2 ⟨bs, H, up1 E2 i, a', hp, h1, h2, a6, ?_⟩ a9 (by omega) (by omega)
              exact a8.hard hp a1 a2 q3 hns a4 a5 (Fut.refl _ _ _) (.tuple .nil)
            | true =>
              rw [hf]
              simp only []
              have hok := cr_ok (P := P) o
              rw [hf] at hok
              have hx := a10.nx
              have hy := a10.lo
              by_cases hval : ∃ v s1, f g' s' = .val v s1
              · obtain ⟨v, s1, hfv⟩ := hval
                rw [hfv]
                simp only []
                have hpost := hok s'.nx ι2 s' w2 g' (rho t2) a9 (Nat.le_refl _) (by omega) (ORho.of hrd)
                rw [hfv] at hpost
                obtain ⟨ι3, w3, v', hrun, hv, hS3, hF3⟩ := hpost
                refine .of_steps (a7.trans (.one (st_value a2 hw hrun))) ((hF0.trans a10).trans (hF3.weaken (by omega))) ?_
                have := hF3.nx
                have := hF3.lo
                refine ih (p + 1) _ _ _ _ _ L2 ⟨bs, H, up1 E2 i, a', hp, h1, h2, a6, ?_⟩ hS3 (by omega) (by omega)
                exact a8.hard hp a1 a2 q3 hns a4 a5 hF3.fut hv
              · have hnv : ∀ v s1, f g' s' ≠ .val v s1 := fun v s1 h => hval ⟨v, s1, h⟩
                have fin : DrawPost P hb fn kind ds all nt ops k cs ι s w (lone (mkF fn kind tmps ds (.inRegion all L :: k)) cs w) (.at_ p (⟨.hd f, o.dst, gd⟩ :: hs) g' s' (f g' s')) := by
                  refine ⟨ι2, w2, t2, i, L2, o, a7, a9, hF0.trans a10, a8.size, ⟨bs, H, E2, a', gd, hp, h1, by rw [hf, ← h2], a1, a2, q3, q5, a4, a5, a6, a8⟩, a2, hw, ?_, hnv⟩
                  intro hb' hle
                  exact hok hb' ι2 s' w2 g' (rho t2) a9 hle (by omega) (ORho.of hrd)
                cases hr : f g' s' with
                | val v s1 => exact absurd hr (hnv _ _)
                | _ => rw [hr] at fin; exact fin

end Go.AM
