/- A step of the abstract machine: all of them. -/
import Derived.Test.YteoodndfkdfnaaaGreatDoorAmStepOk
namespace Go.AM
variable {P : Program} {B : Base} {w0 : World} {ι : Inj} {s : S} {w : World} {hb : Nat} {sf : Suf} {K : Known}

theorem frame_eta (fr : Frame) (h : fr.mode = .run) (h2 : fr.roundOf = none) : fr = mkF fr.fn fr.kind fr.tmps fr.defers fr.todo := by
  obtain ⟨a, b, c, d, e, f, g⟩ := fr
  simp only at h h2; subst h h2; rfl

theorem endRF_ok {fn nt : Nat} {g : T Value} {ds : List ADef} {d : Bool} {rest : List Fr} {kind : CallKind} {tmps : Array Value} {ds' : List Deferred} {cs : List Frame}
    (h : Run1 P B w0 ι hb sf fn nt g ds d rest s kind tmps ds' cs w) (ht : TmpRel ι g tmps) {k : List AItem} {k' : List Item} (hk : ItsRel P nt ι sf.K k k') {l : Nat} {lb : Loc} (hi : ι l = some lb)
    (hle : s.lo ≤ l) {f n : Nat} {tm : T Value} {ps : Array Tmp} {asg body : Code} {de : Nat} (hg : s.h.get l = some (.loop .ready none f n tm ps asg body de)) :
    ResPost' P B w0 ι s w (lone (mkF fn kind tmps ds' (.endRangeFunc lb.blk :: k')) cs w)
      (.next ⟨⟨fn, nt, g, k, ds, .run, d, none⟩ :: rest, s.put l (.loop .exhausted none f n tm ps asg body de)⟩) := by
  obtain ⟨o', ho1, ho2⟩ := h.srel.obj l lb _ hi hg
  cases ho2
  rename_i tmps0 ld hsz0 htm hde
  have hset := setObj_run (P := P) (o1 := .loop { state := .exhausted, pending := none, fn := f, tmps := tmps0, params := ps, assign := asg, body, defers := ld.blk }) ho1 (fun _ _ _ h => by cases h)
  have hnp : ∀ id2 l2 o2, id2 ≠ l → ι id2 = some l2 → l2.blk = lb.blk → s.h.get id2 = some o2 → Dead o2 := by
    intro id2 l2 o2 h1 h2 h3 h4
    rcases h.srel.alias l id2 lb l2 _ o2 (Ne.symm h1) hi h2 h3.symm hg h4 with x | x | x | x
    · simp [Dead] at x
    · exact x
    · simp [Par] at x
    · by_cases hdd : Dead o2
      · exact hdd
      · obtain ⟨_, y⟩ := h.srel.par id2 o2 l h4 (by rw [h2]; simp) hdd x
        obtain ⟨bb, e, _⟩ := y _ hg
        cases e
  have hnc : ∀ id2 o2, s.h.get id2 = some o2 → ι id2 ≠ none → ¬ Dead o2 → ¬ Par o2 l := by
    intro id2 o2 h1 h2 h3 h4
    obtain ⟨_, y⟩ := h.srel.par id2 o2 l h1 h2 h3 h4
    obtain ⟨bb, e, _⟩ := y _ hg
    cases e
  have hS2 := h.srel.put hi hg (o := .loop .exhausted none f n tm ps asg body de) (fun p => by simp [Par]) hnp hnc hset.2 (.loop hsz0 htm hde)
  have hF := Fm.put (hb := hb) hi hg (o := .loop .exhausted none f n tm ps asg body de) trivial hle hset.2
  refine next_body h (.one ?_) h.size hS2 hF (.plain ht hk)
  refine step_lone_go ?_
  have hrun : (Instr.endLoop lb.blk).run P w = .ok none { w with heap := w.heap.setIfInBounds lb.blk (.loop { state := .exhausted, pending := none, fn := f, tmps := tmps0, params := ps, assign := asg, body, defers := ld.blk }) } := by
    have hget : (Instr.getLoop lb.blk).run P w = .ok { state := .ready, pending := none, fn := f, tmps := tmps0, params := ps, assign := asg, body, defers := ld.blk } w := by
      have : (getObj lb.blk).run P w = .ok (.loop { state := .ready, pending := none, fn := f, tmps := tmps0, params := ps, assign := asg, body, defers := ld.blk }) w := by simp only [getObj, Sem.run, ho1]
      simp only [Instr.getLoop, Sem.run_bind, this, Result.andThen_ok, Sem.run_pure]
    have hne : ((LoopState.ready == LoopState.busy) = true) = False := by decide
    simp only [Instr.endLoop, Sem.run_bind, hget, Result.andThen_ok, hne, if_false, Sem.run_pure, hset.1]
  simp [stepG, stepG.exec, mkF, hrun]

theorem step_ok (hK : KnownOk P K w0) (hmix : P.follows .mixedOrders = true) {fr : Fr} {rest : List Fr} {top : Frame} {cs : List Frame} (h : RSt P B w0 ι hb sf fr rest s top cs w) :
    ResPost' P B w0 ι s w (lone top cs w) (AM.step P K ⟨fr :: rest, s⟩) := by
  by_cases hm : fr.mode = .run
  · obtain ⟨fn, nt, g, todo, ds, m, d, rn⟩ := fr
    simp only at hm; subst hm
    obtain ⟨hcal, hT, hS, hhb, hlo, hini⟩ := h
    have hrn := hT.rnd
    simp only at hrn; subst hrn
    have hmode : top.mode = .run := by
      have := hT.mode
      generalize top.mode = mm at this
      cases this; rfl
    rw [frame_eta top hmode hT.rnd']
    have hR : Run1 P B w0 ι hb sf fn nt g ds d rest s top.kind top.tmps top.defers cs w := ⟨hcal, hT.func, hT.kind, hT.size, hT.defers, hS, hhb, hlo, hini⟩
    have hfn := hT.fn
    have hbody := hT.body rfl
    simp only at hfn hbody
    rw [hfn]
    generalize top.kind = kind at hR ⊢
    generalize top.tmps = tmps at hR hbody ⊢
    generalize top.defers = ds' at hR ⊢
    generalize top.todo = todo' at hbody ⊢
    clear hT hmode hfn
    cases hbody with
    | draw hB hk =>
      simp only [AM.step]
      exact goDraw_ok hK hR hB hk
    | plain ht hits =>
      cases hits with
      | nil =>
        cases rest with
        | nil =>
          simp only [AM.step]
          cases hcal with
          | base => exact ⟨ι, _, w, rfl, rfl, .refl _ _, ⟨.base, hR.topP (Ext.refl _) hR.size (.plain ht .nil), hS, hhb, hlo, hini⟩, Fm.refl _ _ _ _⟩
        | cons c rest =>
          simp only [AM.step, leaveA]
          have hK0 : sf.K = [] := by cases hcal <;> rfl
          rw [hK0]
          exact leave_ok hR ht (.one (step_end (b := bs fn kind) (a := ⟨tmps, ds'⟩)))
      | cons hit hk =>
        rename_i a b k k'
        cases hit with
        | inBlock id => simp only [AM.step]; exact next_plain hR (.one (step_inBlock (b := bs fn kind) (a := ⟨tmps, ds'⟩))) ht hk
        | inLoop c => simp only [AM.step]; exact next_plain hR (.one (step_inLoop (b := bs fn kind) (a := ⟨tmps, ds'⟩))) ht (.cons (.code c) (.cons (.inLoop c) hk))
        | inScope c =>
          simp only [AM.step]
          exact next_plain hR (.one (step_lone_go (by simp [stepG, stepG.exec]))) ht hk
        | ops all j hj =>
          simp only [AM.step]
          exact goOps_ok hK hR ht hj hk
        | inRF hi => simp only [AM.step]; trivial
        | endRF hi =>
          rename_i l lb
          simp only [AM.step]
          cases hle : Nat.ble s.lo l with
          | false => trivial
          | true =>
            simp only [cond_true]
            cases hg : s.h.get l with
            | none => trivial
            | some ob =>
              cases ob with
              | loop st pend f n tm ps asg body de =>
                cases st with
                | ready =>
                  cases pend with
                  | none => exact endRF_ok hR ht hk hi (Nat.le_of_ble_eq_true hle) hg
                  | some _ => trivial
                | _ => trivial
              | _ => trivial
        | code c =>
          simp only [AM.step]
          cases c with
          | seq x y => simp only [stepCode]; exact next_plain hR (.one (step_seq (b := bs fn kind) (a := ⟨tmps, ds'⟩))) ht (.cons (.code x) (.cons (.code y) hk))
          | skip => simp only [stepCode]; exact next_plain hR (.one (step_skip (b := bs fn kind) (a := ⟨tmps, ds'⟩))) ht hk
          | block id x => simp only [stepCode]; exact next_plain hR (.one (step_block (b := bs fn kind) (a := ⟨tmps, ds'⟩))) ht (.cons (.code x) (.cons (.inBlock id) hk))
          | loop x => simp only [stepCode]; exact next_plain hR (.one (step_loop (b := bs fn kind) (a := ⟨tmps, ds'⟩))) ht (.cons (.code x) (.cons (.inLoop x) hk))
          | scope x =>
            simp only [stepCode]
            exact next_plain hR (.one (step_lone_go (by simp [stepG, stepG.exec]))) ht (.cons (.code x) (.cons (.inScope x) hk))
          | exit id =>
            simp only [stepCode]
            cases hex : exitA id k with
            | none => trivial
            | some k1 =>
              obtain ⟨k1', e1, e2⟩ := exit_rel hk k1 hex
              exact next_plain hR (.one (step_exit (b := bs fn kind) (a := ⟨tmps, ds'⟩) e1)) ht e2
          | ret =>
            simp only [stepCode, leaveA]
            exact leave_ok hR ht (.one (step_ret (b := bs fn kind) (a := ⟨tmps, ds'⟩)))
          | cond x a b =>
            simp only [stepCode]
            cases he : ev g x with
            | bool t =>
              have hst := step_cond (P := P) (b := bs fn kind) (k := k') (cs := cs) (w := w) (x := a) (y := b) (cond_rel (ds' := ds') ht he)
              cases t with
              | true => exact next_plain hR (.one hst) ht (.cons (.code a) hk)
              | false => exact next_plain hR (.one hst) ht (.cons (.code b) hk)
            | _ => trivial
          | region id ops draw =>
            simp only [stepCode]
            cases draw with
            | false =>
              simp only [cond_false]
              refine .of_steps (.one (step_region (b := bs fn kind) (a := ⟨tmps, ds'⟩))) (Fm.refl _ _ _ _) ?_
              have := goOps_ok hK hR ht (all := ops) (Nat.zero_le _) hk
              simp only [Nat.sub_zero, List.drop_zero] at this
              rw [List.range_eq_range']
              exact this
            | true =>
              simp only [cond_true]
              cases hp : planOf P nt ops with
              | none => trivial
              | some pl =>
                obtain ⟨dops, hs⟩ := pl
                simp only []
                have hsame : WSame w { w with drawn := w.drawn + 1 } := ⟨rfl, rfl, rfl, rfl⟩
                refine .of_steps (.one (step_region_draw (b := bs fn kind) (a := ⟨tmps, ds'⟩))) (Fm.same hsame) ?_
                rw [hmix]
                exact goDraw_ok hK (hR.fm hR.size (hS.same hsame) (Fm.same hsame)) (before_zero hp ht hR.size _) hk
          | rangeFunc f ps asg body =>
            simp only [stepCode]
            cases he : ev g f with
            | func fv first captured =>
              cases fv with
              | func fi =>
                simp only []
                cases hen : enter P fi (first.toList ++ .func (.yield (Nat.succ s.nx)) #[] #[] :: captured.toList) false with
                | none => trivial
                | some n =>
                  simp only []
                  cases hbo : bodyOk P fi && opdOk f with
                  | false => trivial
                  | true =>
                    simp only [Bool.and_eq_true] at hbo
                    exact rangeFunc_ok hR ht hk he hbo.2 hbo.1 hen
              | _ => trivial
            | _ => trivial
          | _ => simp only [stepCode]; trivial
  · have : AM.step P K ⟨fr :: rest, s⟩ = unwindA P fr rest s := by
      obtain ⟨fn, nt, g, todo, ds, m, d, rn⟩ := fr
      cases m with
      | run => exact absurd rfl hm
      | _ => rfl
    rw [this]
    exact unwind_ok h hm

end Go.AM
