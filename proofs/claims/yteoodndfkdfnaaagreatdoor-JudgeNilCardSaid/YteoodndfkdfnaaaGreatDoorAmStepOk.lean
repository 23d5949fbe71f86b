/- A step of the abstract machine, and the model's steps for it. -/
import Derived.Test.YteoodndfkdfnaaaGreatDoorAmSteps
namespace Go.AM
variable {P : Program} {B : Base} {w0 : World} {ι : Inj} {s : S} {w : World} {hb : Nat} {sf : Suf} {K : Known}

/-- a running frame, in the open -/
structure Run1 (P : Program) (B : Base) (w0 : World) (ι : Inj) (hb : Nat) (sf : Suf) (fn nt : Nat) (g : T Value) (ds : List ADef) (d : Bool) (rest : List Fr) (s : S)
    (kind : CallKind) (tmps : Array Value) (ds' : List Deferred) (cs : List Frame) (w : World) : Prop where
  cal : Cal P B ι s hb sf rest cs
  func : ∃ f, P.funcs[fn]? = some f
  kind : (∀ b, sf.kd = some b → d = b ∧ kind = kindOf b) ∧ ∀ q, sf.me = some q → fn = q.1 ∧ nt = q.2.1 ∧ kind = q.2.2
  size : tmps.size = nt
  defers : DefsTo ι sf.D ds ds'
  srel : SRel P ι s w
  hb : hb ≤ s.nx
  lo : s.lo ≤ s.nx
  ini : Ini w0 ι s w

section
variable {fn nt : Nat} {g : T Value} {ds : List ADef} {d : Bool} {rest : List Fr} {kind : CallKind} {tmps : Array Value} {ds' : List Deferred} {cs : List Frame}

theorem Run1.topP (h : Run1 P B w0 ι hb sf fn nt g ds d rest s kind tmps ds' cs w) {ι1 : Inj} {s1 : S} {g1 : T Value} {tmps1 : Array Value} {todo : List AItem} {todo' : List Item} (hx : Ext ι ι1) (hsz : tmps1.size = nt)
    (hb1 : Body P ι1 s1 hb nt sf.K g1 tmps1 todo todo') : Top P ι1 s1 sf hb ⟨fn, nt, g1, todo, ds, .run, d, none⟩ (mkF fn kind tmps1 ds' todo') :=
  ⟨rfl, h.func, rfl, rfl, h.kind, hsz, h.defers.mono hx, .run, fun _ => hb1, fun x => absurd rfl x⟩

theorem next_body (h : Run1 P B w0 ι hb sf fn nt g ds d rest s kind tmps ds' cs w) {ι1 : Inj} {s1 : S} {w1 : World} {m : Machine} {g1 : T Value} {tmps1 : Array Value} {todo : List AItem} {todo' : List Item}
    (hst : Steps P m (lone (mkF fn kind tmps1 ds' todo') cs w1)) (hsz : tmps1.size = nt) (hS : SRel P ι1 s1 w1) (hF : Fm hb ι s w ι1 s1 w1) (hbd : Body P ι1 s1 hb nt sf.K g1 tmps1 todo todo') :
    ResPost' P B w0 ι s w m (.next ⟨⟨fn, nt, g1, todo, ds, .run, d, none⟩ :: rest, s1⟩) := by
  have := hF.nx
  have := hF.lo
  have := h.hb
  have := h.lo
  exact ⟨ι1, hb, sf, _, rest, _, cs, w1, rfl, hst, ⟨h.cal.mono hF.fut, h.topP hF.ext hsz hbd, hS, by omega, by omega, h.ini.fm hF⟩, hF.weaken h.cal.le⟩

theorem next_plain (h : Run1 P B w0 ι hb sf fn nt g ds d rest s kind tmps ds' cs w) {m : Machine} {todo : List AItem} {todo' : List Item}
    (hst : Steps P m (lone (mkF fn kind tmps ds' todo') cs w)) (ht : TmpRel ι g tmps) (hi : ItsRel P nt ι sf.K todo todo') :
    ResPost' P B w0 ι s w m (.next ⟨⟨fn, nt, g, todo, ds, .run, d, none⟩ :: rest, s⟩) :=
  next_body h hst h.size h.srel (Fm.refl _ _ _ _) (.plain ht hi)

theorem Run1.fm (h : Run1 P B w0 ι hb sf fn nt g ds d rest s kind tmps ds' cs w) {ι1 : Inj} {s1 : S} {w1 : World} {g1 : T Value} {tmps1 : Array Value} (hsz : tmps1.size = nt) (hS : SRel P ι1 s1 w1) (hF : Fm hb ι s w ι1 s1 w1) :
    Run1 P B w0 ι1 hb sf fn nt g1 ds d rest s1 kind tmps1 ds' cs w1 := by
  have := hF.nx
  have := hF.lo
  have := h.hb
  have := h.lo
  exact ⟨h.cal.mono hF.fut, h.func, h.kind, hsz, h.defers.mono hF.ext, hS, by omega, by omega, h.ini.fm hF⟩

theorem raise_run {todo : List AItem} {ch : List APan} : raise ⟨fn, nt, g, todo, ds, .run, d, none⟩ ch = ⟨fn, nt, clearG todo g, [], ds, .pan ch, d, none⟩ := rfl

theorem goOps_ok (hK : KnownOk P K w0) (h : Run1 P B w0 ι hb sf fn nt g ds d rest s kind tmps ds' cs w) (ht : TmpRel ι g tmps) {all : Array Oper} {j : Nat} (hj : j ≤ all.size) {k : List AItem} {k' : List Item} (hk : ItsRel P nt ι sf.K k k') :
    ResPost' P B w0 ι s w (lone (mkF fn kind tmps ds' (.inRegion all (List.range' j (all.size - j)) :: k')) cs w) (goOps P K fn nt g all (mkCls P nt all (all.toList.drop j)) k ds d none rest s) := by
  have hsim := sim_ops (P := P) (hb := hb) (fn := fn) (kind := kind) (ds := ds') (all := all) (nt := nt) (k := k') (cs := cs) (all.size - j) j (by omega) g s ι w tmps ht h.size h.srel h.hb h.lo
  unfold goOps
  cases hr : runOps (mkCls P nt all (all.toList.drop j)) g s with
  | bad n => trivial
  | fin g1 s1 =>
    rw [hr] at hsim
    obtain ⟨ι1, w1, tmps1, hO⟩ := hsim
    exact next_body h hO.steps hO.size hO.srel hO.fm (.plain hO.tmps (hk.mono hO.fm.ext))
  | at_ l g1 s1 r =>
    rw [hr] at hsim
    obtain ⟨ι1, w1, tmps1, j1, o, hO, hl, hd, hat⟩ := hsim
    have h1 := h.fm (g1 := g1) hO.size hO.srel hO.fm
    refine .of_steps hO.steps (hO.fm.weaken h.cal.le) ?_
    refine app_ok (fr := ⟨fn, nt, g1, .ops all l :: k, ds, .run, d, none⟩) hK h1.cal ?_ hat h1.kind.1 h1.srel h1.hb h1.lo h1.ini
    have hj1 : j1 < all.size := by
      rcases Nat.lt_or_ge j1 all.size with x | x
      · exact x
      · have := hat.op; rw [Array.getElem?_eq_none x] at this; cases this
    intro ι2 s2 hfut
    refine ⟨fun v v' c1 hv hfi => ?_, fun ch ch' hch => ?_⟩
    · rw [hl] at hfi
      simp only [finish, Option.some.injEq] at hfi
      subst hfi
      rw [fin_eq hat.op]
      refine h1.topP hfut.ext (by rw [pt_size]; exact hO.size) (.plain ((hO.tmps.mono hfut.ext).putD hO.size hd hv) ?_)
      exact .cons (.ops all (j1 + 1) (by omega)) ((hk.mono hO.fm.ext).mono hfut.ext)
    · rw [raise_run]
      exact ⟨rfl, h1.func, rfl, rfl, h1.kind, hO.size, h1.defers.mono hfut.ext, .pan hch, nofun, fun _ => by
        rw [clearG_plain (by intro _ _ _ _ _ x; cases x)]; exact hO.tmps.mono hfut.ext⟩

theorem goDraw_ok (hK : KnownOk P K w0) (h : Run1 P B w0 ι hb sf fn nt g ds d rest s kind tmps ds' cs w) {all : Array Oper} {ops : List Dop} {p : Nat} {hs : List Cl} {L : List Nat}
    (hB : Before P nt all hb ι s g tmps ops p hs L) {k : List AItem} {k' : List Item} (hk : ItsRel P nt ι sf.K k k') :
    ResPost' P B w0 ι s w (lone (mkF fn kind tmps ds' (.inRegion all L :: k')) cs w) (goDraw P K fn nt g all ops p hs k ds d none rest s) := by
  have hsim := sim_draw (P := P) (hb := hb) (fn := fn) (kind := kind) (ds := ds') (all := all) (nt := nt) (k := k') (cs := cs) (ops := ops) hs p g s ι w tmps L hB h.srel h.hb h.lo
  unfold goDraw
  cases hr : runDraw ops p hs g s with
  | bad n => trivial
  | fin g1 s1 =>
    rw [hr] at hsim
    obtain ⟨ι1, w1, tmps1, hO⟩ := hsim
    exact next_body h hO.steps hO.size hO.srel hO.fm (.plain hO.tmps (hk.mono hO.fm.ext))
  | at_ p1 l g1 s1 r =>
    rw [hr] at hsim
    obtain ⟨ι1, w1, tmps1, i, L1, o, hsteps, hS1, hF1, hsz, hW, hat⟩ := hsim
    have h1 := h.fm (g1 := g1) hsz hS1 hF1
    refine .of_steps hsteps (hF1.weaken h.cal.le) ?_
    refine app_ok (fr := ⟨fn, nt, g1, .draw all ops p1 l :: k, ds, .run, d, none⟩) hK h1.cal ?_ hat h1.kind.1 h1.srel h1.hb h1.lo h1.ini
    intro ι2 s2 hfut
    refine ⟨fun v v' c1 hv hfi => ?_, fun ch ch' hch => ?_⟩
    · obtain ⟨c, hs', e1, e2, hB'⟩ := hW.finish hfut hv
      subst e1
      simp only [finish, Option.some.injEq] at hfi
      subst hfi
      rw [fin_eq hat.op, e2]
      exact h1.topP hfut.ext (by rw [pt_size]; exact hsz) (.draw hB' ((hk.mono hF1.ext).mono hfut.ext))
    · rw [raise_run]
      exact ⟨rfl, h1.func, rfl, rfl, h1.kind, hsz, h1.defers.mono hfut.ext, .pan hch, nofun, fun _ => hW.clear.mono hfut.ext⟩

/-- a region that draws begins -/
theorem before_zero {all : Array Oper} {pl : Plan} (hp : planOf P nt all = some pl) (ht : TmpRel ι g tmps) (hsz : tmps.size = nt) (t : Nat) :
    Before P nt all hb ι s g tmps pl.ops 0 pl.hs (Region.schedule true all t) := by
  obtain ⟨bs, H, hP, e⟩ := planOf_spec hp
  subst e
  have hdn : ∀ i, dnf P nt all bs H 0 0 i = false := fun i => by simp [dnf]
  refine ⟨bs, H, fun _ => false, fun _ => none, hP, rfl, rfl, lin_schedule hP.edge t, ⟨Nat.zero_le _, hsz, nofun, fun k i _ => by simp, nofun, nofun, fun t _ => ht t, ?_, nofun, nofun⟩⟩
  intro i o _ hd
  rw [hdn] at hd; cases hd

theorem leave_ok (h : Run1 P B w0 ι hb sf fn nt g ds d rest s kind tmps ds' cs w) (ht : TmpRel ι g tmps) {m : Machine} {todo : List Item}
    (hst : Steps P m (lone { mkF fn kind tmps ds' todo with mode := .returning } cs w)) :
    ResPost' P B w0 ι s w m (.next ⟨⟨fn, nt, g, [], ds, .returning, d, none⟩ :: rest, s⟩) := by
  refine ⟨ι, hb, sf, _, rest, _, cs, w, rfl, hst, ⟨h.cal, ?_, h.srel, h.hb, h.lo, h.ini⟩, Fm.refl _ _ _ _⟩
  exact ⟨rfl, h.func, rfl, rfl, h.kind, h.size, h.defers, .returning, nofun, fun _ => ht⟩

theorem cond_rel {x : Operand} {b : Bool} (ht : TmpRel ι g tmps) (h : ev g x = .bool b) : (Act.mk tmps ds').eval x = .bool b := by
  cases x with
  | tmp t => have := ht t; rw [h] at this; exact this.bool_inv
  | const v => exact h
  | global g => cases h
  | func f => cases h

theorem rangeFunc_ok (h : Run1 P B w0 ι hb sf fn nt g ds d rest s kind tmps ds' cs w) (ht : TmpRel ι g tmps) {f : Operand} {ps : Array Tmp} {asg body : Code} {k : List AItem} {k' : List Item} (hk : ItsRel P nt ι sf.K k k')
    {fi : FuncId} {first captured : Array Value} (he : ev g f = .func (.func fi) first captured) (hf : opdOk f = true) (hbo : bodyOk P fi = true) {n : Fr}
    (hen : enter P fi (first.toList ++ .func (.yield (Nat.succ s.nx)) #[] #[] :: captured.toList) false = some n) :
    ResPost' P B w0 ι s w (lone (mkF fn kind tmps ds' (.code (.rangeFunc f ps asg body) :: k')) cs w)
      (.next ⟨n :: ⟨fn, nt, g, .inRF (Nat.succ s.nx) :: k, .coll s.nx :: ds, .run, d, none⟩ :: rest, (s.push (.defd (some []))).push (.loop .ready none fn nt g ps asg body s.nx)⟩) := by
  have hfr : ι s.nx = none := h.srel.fresh _ (Nat.le_refl _)
  -- the two objects
  have hp1 := WPush.mk' w (.deferred (some []))
  generalize hw1 : { w with heap := w.heap.push (.deferred (some [])) } = w1 at hp1
  have hx1 := Ext.up ⟨w.heap.size, 0, 0⟩ hfr
  have hS1 := h.srel.push (top := 0) (o := .defd (some [])) (fun p => by simp [Par]) hp1 .defS
  have hF1 := Fm.push (hb := hb) (o := .defd (some [])) h.srel h.hb h.lo (top := 0) hp1
  have hF1' := Fm.push (hb := s.nx) (o := .defd (some [])) h.srel (Nat.le_refl _) h.lo (top := 0) hp1
  generalize hs1 : s.push (.defd (some [])) = s1 at hS1 hF1 hF1'
  have hnx1 : s1.nx = s.nx + 1 := by rw [← hs1, S.push_nx]
  have hlo1 : s1.lo = s.lo := by rw [← hs1, S.push_lo]
  have hp2 := WPush.mk' w1 (.loop { state := .ready, pending := none, fn, tmps, params := ps, assign := asg, body, defers := w.heap.size })
  generalize hw2 : { w1 with heap := w1.heap.push (.loop { state := .ready, pending := none, fn, tmps, params := ps, assign := asg, body, defers := w.heap.size }) } = w2 at hp2
  have hfr1 : (ι.up s.nx ⟨w.heap.size, 0, 0⟩) s1.nx = none := hS1.fresh _ (Nat.le_refl _)
  have hx2 := Ext.up ⟨w1.heap.size, 0, 0⟩ hfr1
  have hlr : ORel P ((ι.up s.nx ⟨w.heap.size, 0, 0⟩).up s1.nx ⟨w1.heap.size, 0, 0⟩) ⟨w1.heap.size, 0, 0⟩ (.loop .ready none fn nt g ps asg body s.nx)
      (.loop { state := .ready, pending := none, fn, tmps, params := ps, assign := asg, body, defers := w.heap.size }) :=
    .loop (ld := ⟨w.heap.size, 0, 0⟩) h.size ((ht.mono hx1).mono hx2) (hx2 _ _ (Inj.up_self _ _ _))
  have hS2 := hS1.push (top := 0) (o := .loop .ready none fn nt g ps asg body s.nx) (fun p => by simp [Par]) hp2 hlr
  have hb1 := h.hb
  have hl1 := h.lo
  have hF2 := Fm.push (hb := hb) (o := .loop .ready none fn nt g ps asg body s.nx) hS1 (by omega) (by omega) (top := 0) hp2
  have hnx : Nat.succ s.nx = s1.nx := hnx1.symm
  rw [hnx]
  have hF := hF1.trans hF2
  -- the model's step
  have hfe : (Act.mk tmps ds').eval f = (rho tmps) f := by rw [rho_eq]
  have hrf := (ht.rho [f]) f (by simp) hf
  rw [he] at hrf
  obtain ⟨a', b', ef, r1, r2⟩ := hrf.func_inv
  have hargs : VRelL ((ι.up s.nx ⟨w.heap.size, 0, 0⟩).up s1.nx ⟨w1.heap.size, 0, 0⟩) (first.toList ++ .func (.yield s1.nx) #[] #[] :: captured.toList)
      (a' ++ #[Value.func (.yield w1.heap.size) #[] #[]] ++ b').toList := by
    have : (a' ++ #[Value.func (.yield w1.heap.size) #[] #[]] ++ b').toList = a'.toList ++ (Value.func (.yield w1.heap.size) #[] #[] :: b'.toList) := by simp
    rw [this]
    exact ((r1.mono hx1).mono hx2).append (.cons (.yield (l := ⟨w1.heap.size, 0, 0⟩) (Inj.up_self _ _ _)) ((r2.mono hx1).mono hx2))
  have hst : Go.step P (lone (mkF fn kind tmps ds' (.code (.rangeFunc f ps asg body) :: k')) cs w) =
      .next (lone (Frame.enter P fi (a' ++ #[Value.func (.yield w1.heap.size) #[] #[]] ++ b') .normal)
        (mkF fn kind tmps ({ target := .collected w.heap.size, args := #[] } :: ds') (.inRangeFunc w1.heap.size :: k') :: cs) w2) := by
    refine step_lone_go ?_
    have hel : (Instr.enterLoop fn tmps ps asg body none).run P w = .ok (w1.heap.size, [{ target := .collected w.heap.size, args := #[] }]) w2 := by
      simp [Instr.enterLoop, ← hw2, ← hw1]
      rfl
    have hfe2 : (mkF fn kind tmps ({ target := .collected w.heap.size, args := #[] } :: ds') (.inRangeFunc w1.heap.size :: k')).eval f = .func (.func fi) a' b' := by
      rw [← ef, ← hfe]; cases f <;> rfl
    have hcall : ∀ (w3 : World), (resolve (mkF fn kind tmps ({ target := .collected w.heap.size, args := #[] } :: ds') (.inRangeFunc w1.heap.size :: k')).eval { callee := .value f, args := #[.const (.func (.yield w1.heap.size) #[] #[])], argTypes := #[] } 0 >>= fun dd => invoke dd.target dd.args).run P w3 = .ok (.enter fi (a' ++ #[Value.func (.yield w1.heap.size) #[] #[]] ++ b')) w3 := by
      intro w3
      simp only [resolve, hfe2, Deferred.ofValue, Sem.run_bind, Sem.run_pure, Result.andThen_ok, invoke, bodyOk_run hbo]
      simp [Frame.eval]
    have hcall' := hcall w2
    simp only [mkF] at hcall'
    simp [stepG, stepG.exec, mkF, hel, stepG.apply, hcall']
  have hT : Top P ((ι.up s.nx ⟨w.heap.size, 0, 0⟩).up s1.nx ⟨w1.heap.size, 0, 0⟩) (s1.push (.loop .ready none fn nt g ps asg body s.nx)) ⟨[], [], some false, none⟩ (s1.nx + 1) n
      (Frame.enter P fi (a' ++ #[Value.func (.yield w1.heap.size) #[] #[]] ++ b') .normal) := enter_ok (by rw [← hnx]; exact hen) hargs _ _
  have hcal := h.cal.mono hF.fut
  refine ⟨_, s1.nx + 1, _, n, _, _, _, w2, rfl, .one hst, ⟨.call hcal (by omega) ?_, hT, hS2, by rw [S.push_nx]; omega, by rw [S.push_nx, S.push_lo]; omega, h.ini.fm hF⟩, hF.weaken h.cal.le⟩
  intro ι2 s2 hfut
  have hxx : Ext ι ι2 := hF.ext.trans hfut.ext
  have hcoll : DefRel ι2 (.coll s.nx) { target := .collected w.heap.size, args := #[] } := .coll (l := ⟨w.heap.size, 0, 0⟩) (hfut.ext _ _ (hx2 _ _ (Inj.up_self _ _ _)))
  have hl : ι2 s1.nx = some ⟨w1.heap.size, 0, 0⟩ := hfut.ext _ _ (Inj.up_self _ _ _)
  refine ⟨fun v v' c1 hv hfi => ?_, fun ch ch' hch => ?_⟩
  · simp only [finish, Option.some.injEq] at hfi
    subst hfi
    exact ⟨rfl, h.func, rfl, rfl, h.kind, h.size, .cons hcoll (h.defers.mono hxx), .run, fun _ => .plain (ht.mono hxx) (.cons (.endRF (b := ⟨w1.heap.size, 0, 0⟩) hl) (hk.mono hxx)), fun x => absurd rfl x⟩
  · rw [raise_run]
    exact ⟨rfl, h.func, rfl, rfl, h.kind, h.size, .cons hcoll (h.defers.mono hxx), .pan hch, nofun, fun _ => ht.mono hxx⟩

end
end Go.AM
