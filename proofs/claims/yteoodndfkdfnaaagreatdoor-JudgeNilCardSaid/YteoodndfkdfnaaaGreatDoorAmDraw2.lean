/- Regions that draw: what the model does. -/
import Derived.Test.YteoodndfkdfnaaaGreatDoorAmDraw
namespace Go.AM
variable {P : Program} {nt : Nat} {all : Array Oper} {bs H : List Nat} {hb : Nat} {ι : Inj} {s : S} {g : T Value} {tmps : Array Value} {E dn : Nat → Bool} {p : Nat} {a : Nat → Option Nat} {w : World}

def up1 (E : Nat → Bool) (i : Nat) : Nat → Bool := fun j => decide (j = i) || E j
theorem up1_self (E : Nat → Bool) (i : Nat) : up1 E i i = true := by simp [up1]
theorem up1_ne {E : Nat → Bool} {i j : Nat} (h : j ≠ i) : up1 E i j = E j := by simp [up1, h]
theorem up1_of {E : Nat → Bool} {i j : Nat} (h : E j = true) : up1 E i j = true := by simp [up1, h]
theorem up1_false {E : Nat → Bool} {i j : Nat} (h : up1 E i j = false) : j ≠ i ∧ E j = false := by
  simp [up1] at h; exact h

theorem pt_get {tmps : Array Value} {dst : Option Tmp} {v : Value} {t : Tmp} (h : dst ≠ some t) : (pt tmps dst v).getD t undef = tmps.getD t undef := by
  cases dst with
  | none => rfl
  | some d =>
    have hne : t ≠ d := fun e => h (by rw [e])
    by_cases ht : t < tmps.size
    · simp [pt, Array.getD, ht, Array.getElem_setIfInBounds, Ne.symm hne]
    · simp [pt, Array.getD, ht]
theorem pt_self {tmps : Array Value} {d : Tmp} {v : Value} (h : d < tmps.size) : (pt tmps (some d) v).getD d undef = v := by
  simp [pt, Array.getD, h]

/-- the model does one -/
theorem Dr.conc (hp : PF P nt all bs H) (h : Dr P nt all bs H hb ι s g tmps E dn p a) {i : Nat} {o : Oper} (ho : all[i]? = some o) (hd : dstOk nt o.dst = true) (hE : E i = false) (hrdy : ∀ j, Bf bs i j = true → E j = true)
    {ι' : Inj} {s' : S} {g' : T Value} {v' : Value} {p' : Nat} (hx : Ext ι ι') (hg : ∀ t, o.dst ≠ some t → ev g' (.tmp t) = ev g (.tmp t)) (hgs : dn i = true → ∀ t, ev g' (.tmp t) = ev g (.tmp t))
    (hv : ∀ d, o.dst = some d → VRel ι' (ev g' (.tmp d)) v') (hpl : p' ≤ H.length) (hhrd : ∀ k j, H[k]? = some j → (up1 E i j = true ↔ k < p')) (hdn : soft P nt all i = true → dn i = true)
    (hal : ∀ j id, j ≠ i → E j = false → a j = some id → ι id = none → ι' id = none ∧ s'.h.get id = s.h.get id) (hnx : s.nx ≤ s'.nx) :
    Dr P nt all bs H hb ι' s' g' (pt tmps o.dst v') (up1 E i) dn p' a := by
  have hlt : ∀ d, o.dst = some d → d < tmps.size := fun d e => by
    rw [e] at hd; rw [h.size]; simpa [dstOk] using hd
  refine ⟨hpl, by rw [pt_size]; exact h.size, ?_, hhrd, ?_, ?_, ?_, ?_, fun i id x => Nat.lt_of_lt_of_le (h.alt i id x) hnx, h.inj⟩
  · intro x y hx hy
    by_cases e : x = i
    · subst e; exact up1_of (hrdy y hy)
    · rw [up1_ne e] at hx; exact up1_of (h.clo x y hx hy)
  · intro x hs hx
    by_cases e : x = i
    · subst e; exact hdn hs
    · rw [up1_ne e] at hx; exact h.edn x hs hx
  · intro x hx
    by_cases e : x = i
    · subst e
      rcases Nat.lt_or_ge x all.size with y | y
      · exact y
      · rw [Array.getElem?_eq_none y] at ho; cases ho
    · rw [up1_ne e] at hx; exact h.ein x hx
  · intro t ht
    by_cases e : o.dst = some t
    · rw [e, pt_self (hlt t e)]; exact hv t e
    · rw [pt_get e, hg t e]
      refine (h.tmp t fun x ox q1 q2 q3 => ?_).mono hx
      have := ht x ox q1 q2 q3
      by_cases e2 : x = i
      · subst e2; rw [ho] at q1; cases q1; exact absurd q2 e
      · rwa [up1_ne e2] at this
  · intro j oj hj hdj hEj
    obtain ⟨hji, hEj'⟩ := up1_false hEj
    obtain ⟨gd, q1, q2, q3, q4, q5⟩ := h.pend j oj hj hdj hEj'
    have hdd : ∀ x, DV g oj.dst x → DV g' oj.dst x := by
      intro x hxv d hdx
      rw [hg d (fun e => hji (hp.dist j i oj o d hj ho hdx e)), hxv d hdx]
    have hopf : ∀ gi t, OpF all bs ι g tmps E dn j gi t → OpF all bs ι' g' (pt tmps o.dst v') (up1 E i) dn j gi t := by
      rintro gi t (⟨x, ox, x1, x2, x3, x4, x5, x6⟩ | ⟨x1, x2⟩)
      · by_cases e : x = i
        · subst e
          rw [ho] at x1; cases x1
          refine .inr ⟨?_, fun y oy y1 y2 => .inl ?_⟩
          · rw [x2, pt_self (hlt t x2), x6, ← hgs x5 t]; exact hv t x2
          · rw [hp.dist y x oy o t y1 ho y2 x2]; exact up1_self _ _
        · refine .inl ⟨x, ox, x1, x2, x3, by rw [up1_ne e]; exact x4, x5, ?_⟩
          rw [x6, hg t (fun e' => e (hp.dist x i ox o t x1 ho x2 e'))]
      · have hne : o.dst ≠ some t := fun e => by
          rcases x2 i o ho e with y | y
          · rw [hE] at y; cases y
          · have := hrdy j y; rw [hEj'] at this; cases this
        refine .inr ⟨by rw [pt_get hne]; exact x1.mono hx, fun y oy y1 y2 => (x2 y oy y1 y2).imp up1_of id⟩
    refine ⟨gd, q1, q2, q3, q4, ?_⟩
    cases hcr : cr P oj.op with
    | hd f => rw [hcr] at q5; exact q5
    | rd f => trivial
    | pu f =>
      rw [hcr] at q5
      obtain ⟨gi, b, r1, r2, r3, r4⟩ := q5
      exact ⟨gi, b, r1, fun x => hdd _ (r2 x), fun x => let ⟨u, y, z⟩ := r3 x; ⟨u, y, hdd _ z⟩, fun t ht => hopf gi t (r4 t ht)⟩
    | al f =>
      rw [hcr] at q5
      obtain ⟨gi, b, r1, r2, r3, r4⟩ := q5
      refine ⟨gi, b, r1, fun x => hdd _ (r2 x), fun x => ?_, fun t ht => hopf gi t (r4 t ht)⟩
      obtain ⟨ob, mk, id, y1, y2, y3, y4, y5, y6⟩ := r3 x
      obtain ⟨z1, z2⟩ := hal j id hji hEj' y3 y5
      exact ⟨ob, mk, id, y1, hdd _ y2, y3, y4, z1, by rw [z2]; exact y6⟩

theorem ORho.of {ι : Inj} {gi : T Value} {o : Oper} {tmps : Array Value} (h : ∀ t ∈ reads o all, VRel ι (ev gi (.tmp t)) (tmps.getD t undef)) : ORho ι gi (rho tmps) o.op.operands.toList := by
  intro x hx hok
  cases x with
  | tmp t => exact h t (reads_opd hx)
  | const v => exact .plainV hok
  | func f => exact .func .nil .nil
  | global _ => cases hok

/-- what stands before an operation that is not a bare move is done -/
theorem Dr.reads (hp : PF P nt all bs H) (h : Dr P nt all bs H hb ι s g tmps E dn p a) {i : Nat} {o : Oper} (ho : all[i]? = some o) (hmv : isMv o.op = false) (hrdy : ∀ j, Bf bs i j = true → E j = true) :
    ∀ t ∈ reads o all, VRel ι (ev g (.tmp t)) (tmps.getD t undef) := by
  intro t ht
  refine h.tmp t fun w ow q1 q2 _ => ?_
  rcases hp.rds i o t ho ht w ow q1 q2 with x | x
  · exact hrdy w x
  · rw [hmv] at x; cases x.1

theorem mv_of_rd {o : Op} {f : T Value → S → Option Value} (h : cr P o = .rd f) : isMv o = false := by
  cases o with
  | move x =>
    simp only [cr] at h
    cases hx : opdOk x <;> rw [hx] at h <;> simp [rdNo] at h
  | _ => rfl
theorem mv_of_hd {o : Op} {f : T Value → S → OR} (h : cr P o = .hd f) : isMv o = false := by
  cases o with
  | move x =>
    simp only [cr] at h
    cases hx : opdOk x <;> rw [hx] at h <;> simp [rdNo] at h
  | _ => rfl

section
variable {fn : FuncId} {kind : CallKind} {ds : List Deferred} {k : List Item} {cs : List Frame} {L : List Nat}

/-- the model does one that the abstract machine has done -/
theorem pend_step (hp : PF P nt all bs H) (h : Dr P nt all bs H hb ι s g tmps E (dnf P nt all bs H p all.size) p a) (hR : RdF P nt all bs H g s p) (hS : SRel P ι s w) {i : Nat} {o : Oper} (ho : all[i]? = some o)
    (hE : E i = false) (hrdy : ∀ j, Bf bs i j = true → E j = true) (hdn : dnf P nt all bs H p all.size i = true) :
    ∃ ι' w' v', Go.step P (lone (mkF fn kind tmps ds (.inRegion all (i :: L) :: k)) cs w) = .next (lone (mkF fn kind (pt tmps o.dst v') ds (.inRegion all L :: k)) cs w') ∧
      Dr P nt all bs H hb ι' s g (pt tmps o.dst v') (up1 E i) (dnf P nt all bs H p all.size) p a ∧ SRel P ι' s w' ∧ Fm hb ι s w ι' s w' := by
  obtain ⟨gd, q1, q2, q3, q4, q5⟩ := h.pend i o ho hdn hE
  have hsf := dnf_soft hdn
  have hhrd : ∀ k j, H[k]? = some j → (up1 E i j = true ↔ k < p) := by
    intro k j hk
    rw [← h.hrd k j hk]
    have hne : j ≠ i := by
      intro e; subst e
      obtain ⟨o', ho', hh⟩ := hp.hard' j (List.mem_of_getElem? hk)
      rw [ho] at ho'; cases ho'
      simp [soft, ho, hh] at hsf
    rw [up1_ne hne]
  have hconc : ∀ {ι' : Inj} {v' : Value}, Ext ι ι' → (∀ d, o.dst = some d → VRel ι' (ev g (.tmp d)) v') → (∀ j id, j ≠ i → E j = false → a j = some id → ι id = none → ι' id = none) →
      Dr P nt all bs H hb ι' s g (pt tmps o.dst v') (up1 E i) (dnf P nt all bs H p all.size) p a := fun hx hv hal =>
    h.conc hp ho q3 hE hrdy hx (fun _ _ => rfl) (fun _ _ => rfl) hv h.ple hhrd (fun _ => hdn) (fun j id x y z u => ⟨hal j id x y z u, rfl⟩) (Nat.le_refl _)
  -- an operation that is not wanted
  have hskip : ∀ gi, gdT gd gi = some false → DV g o.dst und → (∀ t ∈ reads o all, VRel ι (ev gi (.tmp t)) (tmps.getD t undef)) →
      ∃ ι' w' v', Go.step P (lone (mkF fn kind tmps ds (.inRegion all (i :: L) :: k)) cs w) = .next (lone (mkF fn kind (pt tmps o.dst v') ds (.inRegion all L :: k)) cs w') ∧
        Dr P nt all bs H hb ι' s g (pt tmps o.dst v') (up1 E i) (dnf P nt all bs H p all.size) p a ∧ SRel P ι' s w' ∧ Fm hb ι s w ι' s w' := by
    intro gi hg hD hr
    have hw := gd_rel' q2 q4 h.size (fun d b e => hr d (reads_gd (by rw [q2, e]))) hg
    refine ⟨ι, w, undef, st_skip ho hw, hconc (Ext.refl _) (fun d hd => by rw [hD d hd]; exact .tuple .nil) (fun _ _ _ _ _ x => x), hS, Fm.refl _ _ _ _⟩
  have hwant : ∀ gi, gdT gd gi = some true → (∀ t ∈ reads o all, VRel ι (ev gi (.tmp t)) (tmps.getD t undef)) → Region.wanted o (yielded all tmps) = true := by
    intro gi hg hr
    exact gd_rel' q2 q4 h.size (fun d b e => hr d (reads_gd (by rw [q2, e]))) hg
  have hopf : ∀ gi, (∀ t ∈ reads o all, OpF all bs ι g tmps E (dnf P nt all bs H p all.size) i gi t) → ∀ t ∈ reads o all, VRel ι (ev gi (.tmp t)) (tmps.getD t undef) := by
    intro gi hf t ht
    rcases hf t ht with ⟨x, ox, _, _, x3, x4, _⟩ | ⟨x, _⟩
    · have := hrdy x x3; rw [x4] at this; cases this
    · exact x
  have hok := cr_ok (P := P) o
  cases hcr : cr P o.op with
  | hd f => rw [hcr] at q5; exact q5.elim
  | rd f =>
    rw [hcr] at hok
    have hr := h.reads hp ho (mv_of_rd hcr) hrdy
    have hlo : lof bs H i ≤ p := by
      simp only [dnf, Bool.and_eq_true, Bool.or_eq_true, decide_eq_true_eq] at hdn; omega
    have hhi : p ≤ hiOf bs i H := by
      rcases Nat.lt_or_ge (hiOf bs i H) p with x | x
      · exfalso
        have hl : hiOf bs i H < H.length := Nat.lt_of_lt_of_le x h.ple
        have e : H[hiOf bs i H]? = some H[hiOf bs i H] := List.getElem?_eq_getElem hl
        have h1 := PF.hiOf_spec (bs := bs) (i := i) _ e
        have h2 := (h.hrd _ _ e).2 x
        have h3 := h.clo _ _ h2 h1
        rw [hE] at h3; cases h3
      · exact x
    obtain ⟨b, r1, r2, r3⟩ := hR i o f gd ho (by rw [q1, hcr]) hlo hhi
    cases b with
    | false => exact hskip g r1 (r2 rfl) hr
    | true =>
      obtain ⟨v, r4, r5⟩ := r3 rfl
      obtain ⟨v', hv, hrun⟩ := hok ι s w g (rho tmps) v r4 hS (ORho.of hr)
      exact ⟨ι, w, v', st_value ho (hwant g r1 hr) (.inl hrun), hconc (Ext.refl _) (fun d hd => by rw [r5 d hd]; exact hv) (fun _ _ _ _ _ x => x), hS, Fm.refl _ _ _ _⟩
  | pu f =>
    rw [hcr] at hok q5
    obtain ⟨gi, b, r1, r2, r3, r4⟩ := q5
    have hr := hopf gi r4
    cases b with
    | false => exact hskip gi r1 (r2 rfl) hr
    | true =>
      obtain ⟨v, r5, r6⟩ := r3 rfl
      obtain ⟨v', hv, hrun⟩ := hok ι gi (rho tmps) v r5 (ORho.of hr)
      exact ⟨ι, w, v', st_value ho (hwant gi r1 hr) (.inl (hrun w)), hconc (Ext.refl _) (fun d hd => by rw [r6 d hd]; exact hv) (fun _ _ _ _ _ x => x), hS, Fm.refl _ _ _ _⟩
  | al f =>
    rw [hcr] at hok q5
    obtain ⟨gi, b, r1, r2, r3, r4⟩ := q5
    have hr := hopf gi r4
    cases b with
    | false => exact hskip gi r1 (r2 rfl) hr
    | true =>
      obtain ⟨ob, mk, id, y1, y2, y3, y4, y5, y6⟩ := r3 rfl
      obtain ⟨hpar, hall⟩ := hok ι gi (rho tmps) ob mk y1 (ORho.of hr)
      obtain ⟨top, o', w', v', hpush, hrun, hrel⟩ := hall w
      have hx := Ext.up ⟨w.heap.size, 0, top⟩ y5
      obtain ⟨z1, z2⟩ := hrel _ id hx (Inj.up_self _ _ _)
      refine ⟨_, w', v', st_value ho (hwant gi r1 hr) (.inl hrun), hconc hx (fun d hd => by rw [y2 d hd]; exact z2) ?_, hS.adopt y5 y6 (h.alt i id y3) hpar hpush z1, Fm.adopt hS y5 y4 hpush⟩
      intro j id' hj _ haj hn
      rw [Inj.up_ne _ _ (fun e => hj (h.inj j i id (by rw [← e]; exact haj) y3))]; exact hn

theorem Lin.ready (hp : PF P nt all bs H) (h : Dr P nt all bs H hb ι s g tmps E dn p a) {i : Nat} {o : Oper} (ho : all[i]? = some o) (hl : ∀ e ∈ o.after.toList, Region.binds .any e = true → E e.on = true) :
    ∀ j, Bf bs i j = true → E j = true := by
  intro j hj
  obtain ⟨e, x1, x2, x3⟩ := (hp.bef i o j ho).1 hj
  have := hl e x1 x2
  rcases x3 with rfl | x3
  · exact this
  · exact h.clo _ _ this x3

/-- the model goes on as far as the next hard one -/
theorem run_soft (hp : PF P nt all bs H) (hR : RdF P nt all bs H g s p) : ∀ (L : List Nat) (E : Nat → Bool) (ι : Inj) (w : World) (tmps : Array Value), Lin all L E →
    Dr P nt all bs H hb ι s g tmps E (dnf P nt all bs H p all.size) p a → SRel P ι s w →
    (∃ ι' w' tmps', H[p]? = none ∧ Steps P (lone (mkF fn kind tmps ds (.inRegion all L :: k)) cs w) (lone (mkF fn kind tmps' ds k) cs w') ∧ TmpRel ι' g tmps' ∧ tmps'.size = nt ∧ SRel P ι' s w' ∧ Fm hb ι s w ι' s w') ∨
    (∃ ι' w' tmps' E' i L' o, H[p]? = some i ∧ all[i]? = some o ∧ Lin all (i :: L') E' ∧ (∀ j, Bf bs i j = true → E' j = true) ∧ E' i = false ∧ Lin all L' (up1 E' i) ∧
      Steps P (lone (mkF fn kind tmps ds (.inRegion all L :: k)) cs w) (lone (mkF fn kind tmps' ds (.inRegion all (i :: L') :: k)) cs w') ∧
      Dr P nt all bs H hb ι' s g tmps' E' (dnf P nt all bs H p all.size) p a ∧ SRel P ι' s w' ∧ Fm hb ι s w ι' s w') := by
  intro L
  induction L with
  | nil =>
    intro E ι w tmps hl h hS
    cases hl with
    | nil hall =>
      have hnone : H[p]? = none := by
        cases hp2 : H[p]? with
        | none => rfl
        | some i =>
          exfalso
          obtain ⟨o, ho, _⟩ := hp.hard' i (List.mem_of_getElem? hp2)
          have hil : i < all.size := by
            rcases Nat.lt_or_ge i all.size with x | x
            · exact x
            · rw [Array.getElem?_eq_none x] at ho; cases ho
          have := (h.hrd p i hp2).1 (hall i hil)
          omega
      refine .inl ⟨ι, w, tmps, hnone, .one (step_region_end (b := Go.AM.bs fn kind) (a := ⟨tmps, ds⟩)), ?_, h.size, hS, Fm.refl _ _ _ _⟩
      intro t
      refine h.tmp t fun i o ho _ _ => hall i ?_
      rcases Nat.lt_or_ge i all.size with x | x
      · exact x
      · rw [Array.getElem?_eq_none x] at ho; cases ho
  | cons i L ih =>
    intro E ι w tmps hl h hS
    have hl0 := hl
    cases hl with
    | cons ho hE hedge hrest =>
      rename_i o
      have hrdy := Lin.ready hp h ho hedge
      cases hs : soft P nt all i with
      | true =>
        have hle : lof bs H i ≤ p := by
          rcases Nat.lt_or_ge p (lof bs H i) with x | x
          · exfalso
            have hlt : p < H.length := Nat.lt_of_lt_of_le x (PF.loOf_le _ _)
            have e : H[p]? = some H[p] := List.getElem?_eq_getElem hlt
            have h1 := (hp.loOf_spec (i := i) e).1 x
            have h2 := (h.hrd _ _ e).1 (hrdy _ h1)
            omega
          · exact x
        have hil : i < all.size := by
          rcases Nat.lt_or_ge i all.size with x | x
          · exact x
          · rw [Array.getElem?_eq_none x] at ho; cases ho
        have hdn : dnf P nt all bs H p all.size i = true := by
          simp only [dnf, hs, Bool.true_and, Bool.or_eq_true, Bool.and_eq_true, decide_eq_true_eq]; omega
        obtain ⟨ι', w', v', h1, h2, h3, h4⟩ := pend_step (fn := fn) (kind := kind) (ds := ds) (k := k) (cs := cs) (L := L) hp h hR hS ho hE hrdy hdn
        rcases ih _ ι' w' _ hrest h2 h3 with ⟨ι2, w2, t2, a0, a1, a2, a3, a4, a5⟩ | ⟨ι2, w2, t2, E2, i2, L2, o2, a1, a2, a3, a4, a5, a6, a7, a8, a9, a10⟩
        · exact .inl ⟨ι2, w2, t2, a0, .head h1 a1, a2, a3, a4, h4.trans a5⟩
        · exact .inr ⟨ι2, w2, t2, E2, i2, L2, o2, a1, a2, a3, a4, a5, a6, .head h1 a7, a8, a9, h4.trans a10⟩
      | false =>
        have hh : isHd (mkCl P nt all o).r = true := by
          simp only [soft, ho] at hs
          simpa using hs
        have hm := hp.hard i o ho hh
        obtain ⟨kk, hk, hk2⟩ := List.getElem_of_mem hm
        have e : H[kk]? = some i := by rw [List.getElem?_eq_getElem hk, hk2]
        have hnk : ¬ kk < p := fun x => by rw [(h.hrd kk i e).2 x] at hE; cases hE
        have hkp : kk = p := by
          rcases Nat.lt_or_ge p kk with x | x
          · exfalso
            have e2 : H[p]? = some (H[p]'(by omega)) := List.getElem?_eq_getElem (by omega)
            have h1 := hp.chain_lt x e2 e
            have h2 := (h.hrd _ _ e2).1 (hrdy _ h1)
            omega
          · omega
        subst hkp
        exact .inr ⟨ι, w, tmps, E, i, L, o, e, ho, hl0, hrdy, hE, hrest, .refl _ _, h, hS, Fm.refl _ _ _ _⟩
end
end Go.AM
