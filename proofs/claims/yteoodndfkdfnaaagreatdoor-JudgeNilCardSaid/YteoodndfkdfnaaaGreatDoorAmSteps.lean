/- Calls, answers, panics: side by side. -/
import Derived.Test.YteoodndfkdfnaaaGreatDoorAmFrame
import Derived.Defers
import Derived.Recover
namespace Go.AM
variable {P : Program} {B : Base} {w0 : World} {ι : Inj} {s : S} {w : World} {hb : Nat} {sf : Suf} {K : Known}

/-! ### what a function answers -/

theorem loadV_ok (hS : SRel P ι s w) {t : TypeId} {b off : Nat} {l : Loc} {v : Value} (hi : ι b = some l) (h : loadV P s t b off = some v) :
    ∃ v', VRel ι v v' ∧ (loadVar t ⟨l.blk, l.base + off, none⟩).run P w = .ok v' w := by
  unfold loadV at h
  cases hag : aggB P t with
  | true =>
    rw [hag] at h; simp only [cond_true] at h
    obtain ⟨d, hu⟩ := aggB_some hag
    cases hs : szOf P t with
    | none => simp [hs] at h
    | some n =>
      simp only [hs] at h
      cases hl : s.load b off n with
      | none => simp [hl] at h
      | some vs =>
        simp only [hl, Option.some.injEq] at h; subst h
        obtain ⟨vs', h1, h2, h3⟩ := load_rel hS hi hl
        refine ⟨.agg vs'.toArray, .agg (by simpa using h1), ?_⟩
        have := run_loadCells_list (P := P) w ⟨l.blk, l.base + off, none⟩ vs' h3
        rw [h2] at this
        simp [loadVar, run_isAgg' hu, hag, run_sizeOf' hs, this]
  | false =>
    rw [hag] at h; simp only [cond_false] at h
    cases hu : P.underlying t with
    | none => simp [hu] at h
    | some d =>
      simp only [hu] at h
      obtain ⟨v', h1, h2⟩ := cell_rel hS hi h
      exact ⟨v', h2, by simp [loadVar, run_isAgg' hu, hag, h1]⟩

def resOne (tmps : Array Value) : ResultVar → Sem Value
  | .tmp t => pure (tmps.getD t undef)
  | .cell a t => do loadVar t (← asAddr (tmps.getD a undef))
theorem results_eq (f : Func) (tmps : Array Value) : results f tmps = (f.results.mapM (resOne tmps) >>= fun vs => pure (if h : vs.size = 1 then vs[0] else .tuple vs)) := rfl

theorem resL_ok (hS : SRel P ι s w) {g : T Value} {tmps : Array Value} (ht : TmpRel ι g tmps) : ∀ {rs : List ResultVar} {l : List Value}, resL P g s rs = some l →
    ∃ l', VRelL ι l l' ∧ (rs.mapM (resOne tmps)).run P w = .ok l' w
  | [], l, h => by
    simp only [resL, Option.some.injEq] at h; subst h
    exact ⟨[], .nil, by simp⟩
  | .tmp t :: rs, l, h => by
    simp only [resL] at h
    cases hr : resL P g s rs with
    | none => simp [hr] at h
    | some r =>
      simp only [hr, Option.some.injEq] at h; subst h
      obtain ⟨l', h1, h2⟩ := resL_ok hS ht hr
      exact ⟨_, .cons (ht t) h1, by simp [List.mapM_cons, resOne, h2]⟩
  | .cell a t :: rs, l, h => by
    simp only [resL] at h
    have hta := ht a
    cases he : ev g (.tmp a) with
    | pointer p =>
      cases p with
      | none => simp [he] at h
      | some p =>
        simp only [he] at h
        cases hl : loadV P s t p.block p.off with
        | none => simp [hl] at h
        | some v =>
          cases hr : resL P g s rs with
          | none => simp [hl, hr] at h
          | some r =>
            simp only [hl, hr, Option.some.injEq] at h; subst h
            obtain ⟨l', h1, h2⟩ := resL_ok hS ht hr
            rw [he] at hta
            obtain ⟨lc, hi, e⟩ := hta.ptr_inv
            obtain ⟨v', h3, h4⟩ := loadV_ok hS hi hl
            exact ⟨_, .cons h3 h1, by simp [List.mapM_cons, resOne, e, asAddr, h2, h4]⟩
    | _ => simp [he] at h

theorem one_ok {ι : Inj} {l l' : List Value} (h : VRelL ι l l') : VRel ι (one l) (if h : l'.toArray.size = 1 then l'.toArray[0] else .tuple l'.toArray) := by
  cases h with
  | nil => exact .tuple .nil
  | cons a b =>
    cases b with
    | nil => simpa [one] using a
    | cons c d => exact .tuple (.cons a (.cons c d))

theorem resV_ok (hS : SRel P ι s w) {g : T Value} {tmps : Array Value} (ht : TmpRel ι g tmps) {fn : FuncId} {v : Value} (h : resV P fn g s = some v) :
    ∃ f v', P.funcs[fn]? = some f ∧ VRel ι v v' ∧ (results f tmps).run P w = .ok v' w := by
  unfold resV at h
  cases hi : finfo P fn with
  | none => simp [hi] at h
  | some fi =>
    obtain ⟨nt, c, rs⟩ := fi
    simp only [hi] at h
    obtain ⟨f, h1, _, _, h4⟩ := finfo_eq hi
    cases hr : resL P g s rs with
    | none => simp [hr] at h
    | some l =>
      simp only [hr, Option.some.injEq] at h; subst h
      rw [← h4] at hr
      obtain ⟨l', h5, h6⟩ := resL_ok hS ht hr
      refine ⟨f, _, h1, one_ok h5, ?_⟩
      rw [results_eq]
      have : (f.results.mapM (resOne tmps)).run P w = .ok l'.toArray w := by
        have e : f.results = f.results.toList.toArray := by simp
        rw [e, List.mapM_toArray]
        simp only [map_eq_pure_bind, Sem.run_bind, h6, Result.andThen_ok, Sem.run_pure]
      simp only [Sem.run_bind, this, Result.andThen_ok, Sem.run_pure]

/-! ### an operation that was left under way -/

theorem Top.put {fr fr1 : Fr} {c' : Frame} (h : Top P ι s sf hb fr c') (he : fr1 = fr) : Top P ι s sf hb fr1 c' := he ▸ h

theorem app_ok (hK : KnownOk P K w0) {fr : Fr} {cs : List Fr} {cs' : List Frame} {r : OR} {kind : CallKind} {tmps : Array Value} {ds : List Deferred} {all : Array Oper} {i : Nat} {L : List Nat} {todo : List Item} {o : Oper}
    (hcal : Cal P B ι s hb sf cs cs') (hw : Wait P ι s sf hb s.nx fr (mkF fr.fn kind tmps ds (.inRegion all (i :: L) :: todo))) (hat : AtOp P ι s w all tmps i o r)
    (hkd : ∀ d, sf.kd = some d → fr.isDef = d ∧ kind = kindOf d) (hS : SRel P ι s w) (hhb : hb ≤ s.nx) (hlo : s.lo ≤ s.nx) (hini : Ini w0 ι s w) :
    ResPost' P B w0 ι s w (lone (mkF fr.fn kind tmps ds (.inRegion all (i :: L) :: todo)) cs' w) (app P K fr cs s r) := by
  have hpost := hat.post s.nx (Nat.le_refl _)
  have hfin : ∀ v, (mkF fr.fn kind tmps ds (.inRegion all (i :: L) :: todo)).finish v = mkF fr.fn kind (pt tmps o.dst v) ds (.inRegion all L :: todo) := fun v => fin_eq hat.op v ds
  cases r with
  | val v s' => exact absurd rfl (hat.noval v s')
  | call f args =>
    obtain ⟨hbo, args', hrun, hargs⟩ := hpost
    have hst := st_enter (fn := fr.fn) (kind := kind) (ds := ds) (L := L) (k := todo) (cs := cs') hat.op hat.wanted hrun
    simp only [app]
    cases hk : K f with
    | some F =>
      simp only []
      cases hF : F args s with
      | none => trivial
      | some v =>
        simp only []
        obtain ⟨v', hv, hcalls⟩ := hK f F hk args s v hF ι w args' hini.size hini.same hS hargs
        obtain ⟨e, w1, fr1, ⟨rfl, rfl⟩, hcomes, _, hleave⟩ := hcalls (mkF fr.fn kind tmps ds (.inRegion all (i :: L) :: todo) :: cs')
        have hl := step_leave_returned (c := mkF fr.fn kind tmps ds (.inRegion all (i :: L) :: todo)) (cs := cs') hleave
        cases hfi : finish fr v with
        | none => trivial
        | some fr2 =>
          simp only []
          refine ⟨ι, hb, sf, fr2, cs, _, cs', _, rfl, .head hst (Steps.trans hcomes (.one hl)), ⟨hcal, ?_, hS, hhb, hlo, hini⟩, Fm.refl _ _ _ _⟩
          exact (hw ι s (Fut.refl _ _ _)).1 v v' fr2 hv hfi
    | none =>
      simp only []
      cases he : enter P f args false with
      | none => trivial
      | some n =>
        simp only []
        refine ⟨ι, s.nx, _, n, fr :: cs, _, _, w, rfl, .one hst, ⟨.call hcal hhb hw, enter_ok he hargs s s.nx, hS, Nat.le_refl _, hlo, hini⟩, Fm.refl _ _ _ _⟩
  | round l args => trivial
  | dfr f c a =>
    obtain ⟨hbo, d, hrun, hd⟩ := hpost
    have hst := st_defer (fn := fr.fn) (kind := kind) (ds := ds) (L := L) (k := todo) (cs := cs') hat.op hat.wanted hrun
    simp only [app]
    cases hfi : finish fr und with
    | none => trivial
    | some fr2 =>
      obtain ⟨fn2, nt2, g2, todo2, ds2, m2, d2, r2⟩ := fr2
      cases r2 with
      | some _ => trivial
      | none =>
        simp only []
        have hT := (hw ι s (Fut.refl _ _ _)).1 und undef _ (.tuple .nil) hfi
        rw [hfin] at hT
        refine ⟨ι, hb, sf, _, cs, _, cs', w, rfl, .one hst, ⟨hcal, ?_, hS, hhb, hlo, hini⟩, Fm.refl _ _ _ _⟩
        exact ⟨hT.fn, hT.func, hT.rnd, hT.rnd', hT.kind, hT.size, .cons hd hT.defers, hT.mode, hT.body, hT.tmps⟩
  | rcv =>
    have hrun : (execOp (rho tmps) o).run P w = .ok .recover w := hpost
    have hst := st_recover (fn := fr.fn) (kind := kind) (ds := ds) (L := L) (k := todo) (cs := cs') hat.op hat.wanted hrun
    cases hcal0 : hcal with
    | base =>
      obtain ⟨fn, nt, g, td, dd, m, d, rn⟩ := fr
      simp only [app]
      cases d <;> cases rn <;> trivial
    | call h1 h2 h3 =>
      have := (hkd false rfl).1
      obtain ⟨fn, nt, g, td, dd, m, d, rn⟩ := fr
      simp only at this; subst this
      simp only [app]; trivial
    | dfr h1 h2 h3 h4 =>
      rename_i hb1 sf1 c c' cs1 cs1'
      obtain ⟨hd1, hd2⟩ := hkd true rfl
      obtain ⟨fn, nt, g, td, dd, m, d, rn⟩ := fr
      simp only at hd1; subst hd1
      cases rn with
      | some _ => simp only [app]; trivial
      | none =>
        obtain ⟨cf, cn, cg, ct, cds, cm, cd, crd⟩ := c
        cases cm with
        | run => exact absurd rfl h3
        | returning =>
          simp only [app]
          cases hfi : finish ⟨fn, nt, g, td, dd, m, true, none⟩ .nilIface with
          | none => trivial
          | some fr2 =>
            simp only []
            have hm := h4.mode
            have hm' : c'.mode = .returning := by
              generalize c'.mode = mm at hm
              cases hm; rfl
            have htr : tryRecover (mkF fn kind tmps ds (.inRegion all (i :: L) :: todo)) (c' :: cs1') = none := by
              simp [tryRecover, hd2, kindOf, hm']
            simp only [htr] at hst
            refine ⟨ι, hb, _, fr2, _, _, _, w, rfl, .one hst, ⟨hcal, ?_, hS, hhb, hlo, hini⟩, Fm.refl _ _ _ _⟩
            have := (hw ι s (Fut.refl _ _ _)).1 .nilIface .nilIface fr2 .nilIface hfi
            rw [hfin] at this; exact this
        | pan ch =>
          cases ch with
          | nil => simp only [app]; trivial
          | cons e older =>
            obtain ⟨t, v, b⟩ := e
            cases b with
            | true => simp only [app]; trivial
            | false =>
              simp only [app]
              cases hfi : finish ⟨fn, nt, g, td, dd, m, true, none⟩ (.iface t v) with
              | none => trivial
              | some fr2 =>
                simp only []
                have hm := h4.mode
                obtain ⟨older', v', hv, hold, hm'⟩ : ∃ older' v', VRel ι v v' ∧ PanRel ι older older' ∧ c'.mode = .panicking ({ v := .iface t v', recovered := false, goexit := false } :: older') := by
                  generalize c'.mode = mm at hm
                  cases hm with
                  | pan hp => cases hp with
                    | cons a b => exact ⟨_, _, a, b, rfl⟩
                have htr : tryRecover (mkF fn kind tmps ds (.inRegion all (i :: L) :: todo)) (c' :: cs1') = some (.iface t v', { c' with mode := .panicking ({ v := .iface t v', recovered := true } :: older') } :: cs1') := by
                  simp [tryRecover, hd2, kindOf, hm']
                simp only [htr] at hst
                refine ⟨ι, hb, _, fr2, _, _, _, w, rfl, .one hst, ⟨.dfr h1 h2 (by simp) ?_, ?_, hS, hhb, hlo, hini⟩, Fm.refl _ _ _ _⟩
                · exact ⟨h4.fn, h4.func, h4.rnd, h4.rnd', h4.kind, h4.size, h4.defers, .pan (.cons hv hold), nofun, fun _ => h4.tmps (by simp)⟩
                · have := (hw ι s (Fut.refl _ _ _)).1 (.iface t v) (.iface t v') fr2 (.iface hv) hfi
                  rw [hfin] at this; exact this
  | upd r k x =>
    simp only [app]
    cases cs with
    | cons _ _ => trivial
    | nil =>
      simp only []
      cases hcal with
      | base => exact ⟨ι, w, kind, tmps, ds, todo, all, i, L, o, .refl _ _, hS, hlo, hhb, hini, Fm.refl _ _ _ _, hat, hw⟩
  | pan t v =>
    obtain ⟨v', hrun, hv⟩ := hpost
    have hst := st_panic (fn := fr.fn) (kind := kind) (ds := ds) (L := L) (k := todo) (cs := cs') hat.op hat.wanted hrun
    simp only [app]
    refine ⟨ι, hb, sf, _, cs, _, cs', w, rfl, .one hst, ⟨hcal, ?_, hS, hhb, hlo, hini⟩, Fm.refl _ _ _ _⟩
    exact (hw ι s (Fut.refl _ _ _)).2 _ _ (.cons hv .nil)
  | bad n => simp only [app]; trivial

/-! ### answers -/

theorem settle_ok {m : AMode} {m' : FrameMode} (h : ModeRel ι m m') : ModeRel ι (settleA m) (settle m') := by
  cases h with
  | run => exact .run
  | returning => exact .returning
  | pan hp =>
    cases hp with
    | nil => exact .pan .nil
    | cons a b =>
      rename_i t v v' rb l l'
      cases rb with
      | false => exact .pan (.cons a b)
      | true =>
        have : ∀ {x : List APan} {y : List PanicEntry}, PanRel ι x y → y.dropWhile (!·.goexit) = [] := by
          intro x y h
          induction h with
          | nil => rfl
          | cons _ _ ih => simp [List.dropWhile, ih]
        simp only [settleA, settle, this b]
        exact .returning

theorem settleA_run {m : AMode} (h : m ≠ .run) : settleA m ≠ .run := by
  unfold settleA
  split
  · simp
  · exact h

theorem clearG_plain {todo : List AItem} {g : T Value} (h : ∀ all ops p hs k, todo ≠ .draw all ops p hs :: k) : clearG todo g = g := by
  unfold clearG
  split
  · exact absurd rfl (h _ _ _ _ _)
  · rfl

theorem TmpRel.clearD {ι : Inj} {tmps : Array Value} : ∀ (ops : List Dop) {g : T Value}, TmpRel ι g tmps → TmpRel ι (AM.clearD ops g) tmps
  | [], _, h => h
  | o :: l, g, h => by
    simp only [AM.clearD]
    refine TmpRel.clearD l ?_
    intro t
    by_cases e : o.cl.dst = some t
    · rw [ev_putD_eq t e]; exact .poi _
    · rw [ev_putD_ne e]; exact h t
theorem TmpRel.clearG {ι : Inj} {tmps : Array Value} {g : T Value} (todo : List AItem) (h : TmpRel ι g tmps) : TmpRel ι (AM.clearG todo g) tmps := by
  unfold AM.clearG
  split
  · exact h.clearD _
  · exact h

/-- a panic reaches a frame that is not running -/
theorem raise_ok {c : Fr} {c' : Frame} (h : Top P ι s sf hb c c') (hm : c.mode ≠ .run) {ch : List APan} {ch' : List PanicEntry} (hp : PanRel ι ch ch') : Top P ι s sf hb (raise c ch) (c'.raise ch') := by
  obtain ⟨cf, cn, cg, ct, cds, cm, cd, crd⟩ := c
  have hmd := h.mode
  have ht := (h.tmps hm).clearG ct
  cases cm with
  | run => exact absurd rfl hm
  | returning =>
    have hme : c'.mode = .returning := by
      generalize c'.mode = mm at hmd
      cases hmd; rfl
    have e : c'.raise ch' = { c' with mode := .panicking ch' } := by simp [Frame.raise, hme]
    rw [e]
    exact ⟨h.fn, h.func, h.rnd, h.rnd', h.kind, h.size, h.defers, .pan hp, nofun, fun _ => ht⟩
  | pan old =>
    obtain ⟨old', ho, hme⟩ : ∃ old', PanRel ι old old' ∧ c'.mode = .panicking old' := by
      generalize c'.mode = mm at hmd
      cases hmd; exact ⟨_, by assumption, rfl⟩
    have e : c'.raise ch' = { c' with mode := .panicking (ch' ++ old') } := by simp [Frame.raise, hme]
    rw [e]
    exact ⟨h.fn, h.func, h.rnd, h.rnd', h.kind, h.size, h.defers, .pan (hp.append ho), nofun, fun _ => ht⟩

theorem unwind_ok {fr : Fr} {cs : List Fr} {cs' : List Frame} {top : Frame} (h : RSt P B w0 ι hb sf fr cs s top cs' w) (hm : fr.mode ≠ .run) :
    ResPost' P B w0 ι s w (lone top cs' w) (unwindA P fr cs s) := by
  obtain ⟨hcal, hT, hS, hhb, hlo, hini⟩ := h
  obtain ⟨fn, nt, g, td, dd, m, d, rn⟩ := fr
  simp only at hm
  have hm' : top.mode ≠ .run := by
    have := hT.mode
    intro e
    generalize top.mode = mm at this e
    subst e
    cases this; exact hm rfl
  have hdf := hT.defers
  cases dd with
  | cons d0 dd =>
    generalize htd : top.defers = td' at hdf
    cases hdf with
    | cons hd hrest =>
      rename_i d' l'
      have hTop : ∀ (ι' : Inj) (s' : S), Ext ι ι' → Top P ι' s' sf hb ⟨fn, nt, g, td, dd, m, d, rn⟩ { top with defers := l' } := fun ι' s' hx =>
        ⟨hT.fn, hT.func, hT.rnd, hT.rnd', hT.kind, hT.size, hrest.mono hx, hT.mode.mono hx, fun e => absurd e hm, fun e => (hT.tmps e).mono hx⟩
      cases d0 with
      | coll b =>
        simp only [unwindA]
        cases hle : Nat.ble s.lo b with
        | false => trivial
        | true =>
          simp only [cond_true]
          cases hg : s.h.get b with
          | none => trivial
          | some ob =>
            cases ob with
            | defd x =>
              cases x with
              | none => trivial
              | some l =>
                cases l with
                | cons _ _ => trivial
                | nil =>
                  simp only []
                  cases hd with
                  | coll hib =>
                    rename_i lb
                    obtain ⟨o', ho1, ho2⟩ := hS.obj b lb _ hib hg
                    cases ho2
                    have hlt := hS.bound b lb hib
                    have hput : WPut w { w with heap := w.heap.setIfInBounds lb.blk (.deferred none) } lb.blk (.deferred none) :=
                      ⟨by simp [hlt], fun c hc => by simp [Array.getElem?_setIfInBounds, Ne.symm hc], by simp, rfl, rfl, rfl⟩
                    have hnp : ∀ id2 l2 o2, id2 ≠ b → ι id2 = some l2 → l2.blk = lb.blk → s.h.get id2 = some o2 → Dead o2 := by
                      intro id2 l2 o2 h1 h2 h3 h4
                      rcases hS.alias b id2 lb l2 _ o2 (Ne.symm h1) hib h2 h3.symm hg h4 with x | x | x | x
                      · simp [Dead] at x
                      · exact x
                      · simp [Par] at x
                      · by_cases hdd : Dead o2
                        · exact hdd
                        · obtain ⟨_, y⟩ := hS.par id2 o2 b h4 (by rw [h2]; simp) hdd x
                          obtain ⟨bb, e, _⟩ := y _ hg
                          cases e
                    have hnc : ∀ id2 o2, s.h.get id2 = some o2 → ι id2 ≠ none → ¬ Dead o2 → ¬ Par o2 b := by
                      intro id2 o2 h1 h2 h3 h4
                      obtain ⟨_, y⟩ := hS.par id2 o2 b h1 h2 h3 h4
                      obtain ⟨bb, e, _⟩ := y _ hg
                      cases e
                    have hS2 := hS.put hib hg (o := .defd none) (fun p => by simp [Par]) hnp hnc hput .defN
                    have hF := Fm.put (hb := hb) hib hg (o := .defd none) trivial (Nat.le_of_ble_eq_true hle) hput
                    have hst : Go.step P (lone top cs' w) = .next (lone { top with defers := l' } cs' { w with heap := w.heap.setIfInBounds lb.blk (.deferred none) }) := by
                      refine step_lone_go ?_
                      have hrun : (Instr.takeDeferred lb.blk).run P w = .ok [] { w with heap := w.heap.setIfInBounds lb.blk (.deferred none) } := by
                        have hget : (getObj lb.blk).run P w = .ok (.deferred (some [])) w := by simp only [getObj, Sem.run, ho1]
                        simp only [Instr.takeDeferred, Sem.run_bind, hget, Result.andThen_ok]
                        have hset : (setObj lb.blk (.deferred none)).run P w = .ok () { w with heap := w.heap.setIfInBounds lb.blk (.deferred none) } := by
                          exact (setObj_run ho1 (fun _ _ _ h => by cases h)).1
                        simp only [hset, Result.andThen_ok, Sem.run_pure]
                      cases hmode : top.mode with
                      | run => exact absurd hmode hm'
                      | returning => simp [stepG, unwind, hmode, htd, hrun]
                      | panicking chain => simp [stepG, unwind, hmode, htd, hrun]
                    refine ⟨ι, hb, sf, _, cs, _, cs', _, rfl, .one hst, ⟨hcal.mono hF.fut, hTop ι _ (Ext.refl _), hS2, by rw [S.put_nx]; exact hhb, by rw [S.put_nx, S.put_lo]; exact hlo, hini.fm hF⟩, hF.weaken hcal.le⟩
            | _ => trivial
      | call f c a =>
        simp only [unwindA]
        cases he : enter P f (a ++ c) true with
        | none => trivial
        | some n =>
          simp only []
          cases hbo : bodyOk P f with
          | false => trivial
          | true =>
            simp only [cond_true]
            cases hd with
            | call h1 h2 =>
              rename_i cs0 as0
              have hrun : (invoke (.fn (.func f) cs0) as0).run P w = .ok (.enter f (as0 ++ cs0)) w := by
                simp only [invoke]
                exact bodyOk_run hbo _ _
              have hst := step_defer (cs := cs') hm' htd rfl hrun
              have hargs : VRelL ι (a ++ c) (as0 ++ cs0).toList := by simpa using h2.append h1
              refine ⟨ι, s.nx, _, n, _, _, _, w, rfl, .one hst, ⟨.dfr hcal hhb hm (hTop ι s (Ext.refl _)), enter_ok he hargs s s.nx, hS, Nat.le_refl _, hlo, hini⟩, Fm.refl _ _ _ _⟩
  | nil =>
    cases hcal0 : hcal with
    | base =>
      simp only [unwindA]
      exact ⟨ι, top, w, rfl, hm, .refl _ _, ⟨.base, hT, hS, hhb, hlo, hini⟩, Fm.refl _ _ _ _⟩
    | call h1 h2 h3 =>
      rename_i hb1 sf1 c c' cs1 cs1'
      have htd : top.defers = [] := by
        generalize htd : top.defers = td' at hdf
        cases hdf; rfl
      obtain ⟨hd1, hd2⟩ := hT.kind.1 false rfl
      simp only at hd1; subst hd1
      obtain ⟨ff, hff⟩ := hT.func
      simp only [unwindA]
      have hmd := hT.mode
      cases m with
      | run => exact absurd rfl hm
      | pan ch =>
        simp only []
        obtain ⟨ch', hch, hme⟩ : ∃ ch', PanRel ι ch ch' ∧ top.mode = .panicking ch' := by
          generalize top.mode = mm at hmd
          cases hmd; exact ⟨_, by assumption, rfl⟩
        have hst : Go.step P (lone top (c' :: cs1') w) = .next (lone (c'.raise ch') cs1' w) := step_leave_panicked ⟨hme, htd, ff, by rw [hT.fn]; exact hff⟩
        refine ⟨ι, hb1, sf1, _, cs1, _, cs1', w, rfl, .one hst, ⟨h1, ?_, hS, by omega, hlo, hini⟩, Fm.refl _ _ _ _⟩
        exact (h3 ι s (Fut.refl _ _ _)).2 _ _ hch
      | returning =>
        simp only []
        cases hrv : resV P fn g s with
        | none => trivial
        | some v =>
          simp only []
          obtain ⟨f', v', hf', hv, hres⟩ := resV_ok hS (hT.tmps hm) hrv
          have hme : top.mode = .returning := by
            generalize top.mode = mm at hmd
            cases hmd; rfl
          have hst : Go.step P (lone top (c' :: cs1') w) = .next (lone (c'.finish v') cs1' w) :=
            step_leave_returned ⟨hme, htd, hd2, f', by rw [hT.fn]; exact hf', hres⟩
          simp only [retTo, cond_false]
          cases hfi : finish c v with
          | none => trivial
          | some c1 =>
            simp only []
            refine ⟨ι, hb1, sf1, c1, cs1, _, cs1', w, rfl, .one hst, ⟨h1, ?_, hS, by omega, hlo, hini⟩, Fm.refl _ _ _ _⟩
            exact (h3 ι s (Fut.refl _ _ _)).1 v v' c1 hv hfi
    | dfr h1 h2 h3 h4 =>
      rename_i hb1 sf1 c c' cs1 cs1'
      have htd : top.defers = [] := by
        generalize htd : top.defers = td' at hdf
        cases hdf; rfl
      obtain ⟨hd1, hd2⟩ := hT.kind.1 true rfl
      simp only at hd1; subst hd1
      obtain ⟨ff, hff⟩ := hT.func
      simp only [unwindA]
      have hmd := hT.mode
      cases m with
      | run => exact absurd rfl hm
      | pan ch =>
        simp only []
        obtain ⟨ch', hch, hme⟩ : ∃ ch', PanRel ι ch ch' ∧ top.mode = .panicking ch' := by
          generalize top.mode = mm at hmd
          cases hmd; exact ⟨_, by assumption, rfl⟩
        have hst : Go.step P (lone top (c' :: cs1') w) = .next (lone (c'.raise ch') cs1' w) := step_leave_panicked ⟨hme, htd, ff, by rw [hT.fn]; exact hff⟩
        refine ⟨ι, hb1, sf1, _, cs1, _, cs1', w, rfl, .one hst, ⟨h1, ?_, hS, by omega, hlo, hini⟩, Fm.refl _ _ _ _⟩
        exact raise_ok h4 h3 hch
      | returning =>
        simp only []
        cases hrv : resV P fn g s with
        | none => trivial
        | some v =>
          simp only []
          obtain ⟨f', v', hf', hv, hres⟩ := resV_ok hS (hT.tmps hm) hrv
          have hme : top.mode = .returning := by
            generalize top.mode = mm at hmd
            cases hmd; rfl
          have hst : Go.step P (lone top (c' :: cs1') w) = .next (lone { c' with mode := settle c'.mode } cs1' w) :=
            step_going_returned hd2 ⟨hme, htd, f', by rw [hT.fn]; exact hf', hres⟩
          obtain ⟨cf, cn, cg, ct, cds, cm, cd, crd⟩ := c
          simp only [retTo, cond_true]
          refine ⟨ι, hb1, sf1, _, cs1, _, cs1', w, rfl, .one hst, ⟨h1, ?_, hS, by omega, hlo, hini⟩, Fm.refl _ _ _ _⟩
          exact ⟨h4.fn, h4.func, h4.rnd, h4.rnd', h4.kind, h4.size, h4.defers, settle_ok h4.mode, fun e => absurd e (settleA_run h3), fun _ => h4.tmps h3⟩

end Go.AM
