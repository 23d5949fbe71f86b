/- The two machines side by side: operations of a region. -/
import Derived.Test.YteoodndfkdfnaaaGreatDoorAmCr
namespace Go.AM
variable {P : Program}

/-- a running frame of the model -/
abbrev mkF (fn : FuncId) (kind : CallKind) (tmps : Array Value) (ds : List Deferred) (todo : List Item) : Frame :=
  { fn, tmps, todo, defers := ds, mode := .run, kind }
def bs (fn : FuncId) (kind : CallKind) : Frame := mkF fn kind #[] [] []
theorem at_eq (fn : FuncId) (kind : CallKind) (tmps : Array Value) (ds : List Deferred) (todo : List Item) : (bs fn kind).at ⟨tmps, ds⟩ todo = mkF fn kind tmps ds todo := rfl

def pt (tmps : Array Value) (dst : Option Tmp) (v : Value) : Array Value := match dst with | some d => tmps.setIfInBounds d v | none => tmps
theorem pt_size (tmps : Array Value) (dst : Option Tmp) (v : Value) : (pt tmps dst v).size = tmps.size := by cases dst <;> simp [pt]
theorem put_eq (tmps : Array Value) (ds : List Deferred) (dst : Option Tmp) (v : Value) : (Act.mk tmps ds).put dst v = ⟨pt tmps dst v, ds⟩ := by cases dst <;> rfl

/-- what an operand is -/
def rho (tmps : Array Value) : Operand → Value := (Act.mk tmps []).eval
theorem rho_eq (tmps : Array Value) (ds : List Deferred) : (Act.mk tmps ds).eval = rho tmps := by funext x; cases x <;> rfl
theorem TmpRel.rho {ι : Inj} {g : T Value} {tmps : Array Value} (h : TmpRel ι g tmps) (xs : List Operand) : ORho ι g (rho tmps) xs := by
  intro x _ hok
  cases x with
  | tmp t => exact h t
  | const v => exact .plainV hok
  | func f => exact .func .nil .nil
  | global _ => cases hok

theorem TmpRel.putD {ι : Inj} {g : T Value} {tmps : Array Value} {nt : Nat} (h : TmpRel ι g tmps) (hn : tmps.size = nt) {dst : Option Tmp} (hd : dstOk nt dst = true) {v v' : Value} (hv : VRel ι v v') :
    TmpRel ι (putD g dst v) (pt tmps dst v') := by
  cases dst with
  | none => exact h
  | some d => exact h.set (by rw [hn]; simpa [dstOk] using hd) hv

theorem mkCl_cases (nt : Nat) (all : Array Oper) (o : Oper) : mkCl P nt all o = ⟨rdNo, none, .no⟩ ∨
    ∃ gd, mkCl P nt all o = ⟨cr P o.op, o.dst, gd⟩ ∧ mkGd all o.guard = some gd ∧ dstOk nt o.dst = true ∧ gdOk nt gd = true := by
  unfold mkCl
  cases h : mkGd all o.guard with
  | none => exact .inl rfl
  | some gd =>
    simp only []
    cases hk : dstOk nt o.dst && gdOk nt gd with
    | false => exact .inl rfl
    | true => simp only [Bool.and_eq_true] at hk; exact .inr ⟨gd, rfl, rfl, hk.1, hk.2⟩

theorem VRel.tuple_ex {ι : Inj} {xs : Array Value} {v : Value} (h : VRel ι (.tuple xs) v) : ∃ xs', v = .tuple xs' := by cases h; exact ⟨_, rfl⟩

theorem gd_rel' {all : Array Oper} {o : Oper} {gd : Gd} {nt : Nat} {ι : Inj} {g : T Value} {tmps : Array Value} {b : Bool} (hm : mkGd all o.guard = some gd) (hok : gdOk nt gd = true) (hn : tmps.size = nt)
    (h : ∀ d w, gd = .on d w → VRel ι (ev g (.tmp d)) (tmps.getD d undef)) (hg : gdT gd g = some b) : Region.wanted o (yielded all tmps) = b := by
  unfold mkGd at hm
  unfold Region.wanted
  cases hgu : o.guard with
  | none =>
    simp only [hgu, Option.some.injEq] at hm; subst hm
    simp only [gdT, Option.some.injEq] at hg; subst hg; rfl
  | some jw =>
    obtain ⟨j, w⟩ := jw
    simp only [hgu] at hm
    cases hj : all[j]? with
    | none => simp [hj] at hm
    | some oj =>
      simp only [hj] at hm
      cases hd : oj.dst with
      | none => simp [hd] at hm
      | some d =>
        simp only [hd, Option.some.injEq] at hm; subst hm
        simp only [gdT] at hg
        have hr := h d w rfl
        have hdn : d < tmps.size := by rw [hn]; simpa [gdOk] using hok
        have hy : tmps[d]? = some (tmps.getD d undef) := by simp [Array.getD, hdn]
        cases he : ev g (.tmp d) with
        | bool x =>
          rw [he] at hr hg
          simp only [Option.some.injEq] at hg; subst hg
          have e1 := hr.bool_inv
          rw [e1] at hy
          simp [yielded, hj, hd, hy]
        | tuple xs =>
          rw [he] at hr hg
          simp only [Option.some.injEq] at hg; subst hg
          obtain ⟨xs', e1⟩ := hr.tuple_ex
          rw [e1] at hy
          simp [yielded, hj, hd, hy]
        | _ => rw [he] at hg; cases hg
theorem gd_rel {all : Array Oper} {o : Oper} {gd : Gd} {nt : Nat} {ι : Inj} {g : T Value} {tmps : Array Value} {b : Bool} (hm : mkGd all o.guard = some gd) (hok : gdOk nt gd = true) (hn : tmps.size = nt)
    (h : TmpRel ι g tmps) (hg : gdT gd g = some b) : Region.wanted o (yielded all tmps) = b := gd_rel' hm hok hn (fun d _ _ => h d) hg

/-! ### single steps of the model -/
section
variable {fn : FuncId} {kind : CallKind} {tmps : Array Value} {ds : List Deferred} {all : Array Oper} {i : Nat} {L : List Nat} {k : List Item} {cs : List Frame} {w w' : World} {o : Oper}

theorem st_skip (ho : all[i]? = some o) (hw : Region.wanted o (yielded all tmps) = false) :
    Go.step P (lone (mkF fn kind tmps ds (.inRegion all (i :: L) :: k)) cs w) = .next (lone (mkF fn kind (pt tmps o.dst undef) ds (.inRegion all L :: k)) cs w) := by
  have := step_op_skip (P := P) (b := bs fn kind) (a := ⟨tmps, ds⟩) (k := k) (cs := cs) (w := w) (ops := all) (i := i) (rest := L) (by simp [ho, hw])
  rw [put_eq, ho] at this
  exact this

theorem stG (ho : all[i]? = some o) (hw : Region.wanted o (yielded all tmps) = true) :
    stepG P true { frame := mkF fn kind tmps ds (.inRegion all (i :: L) :: k), callers := cs, status := .running, dying := none } w =
      stepG.apply P true (mkF fn kind tmps ds (.inRegion all (i :: L) :: k)) cs none (execOp (rho tmps) o) w := by
  have := stepG_op (P := P) (b := bs fn kind) (a := ⟨tmps, ds⟩) (k := k) (cs := cs) (w := w) (ops := all) (i := i) (rest := L) ho hw
  rw [rho_eq] at this
  exact this

theorem fin_eq (ho : all[i]? = some o) (v : Value) (dd : List Deferred) : (mkF fn kind tmps dd (.inRegion all (i :: L) :: k)).finish v = mkF fn kind (pt tmps o.dst v) dd (.inRegion all L :: k) := by
  have := Frame.finish_at (bs fn kind) ⟨tmps, dd⟩ all i L k v
  rw [put_eq, ho] at this
  exact this

theorem st_value (ho : all[i]? = some o) (hw : Region.wanted o (yielded all tmps) = true) {v : Value}
    (hr : (execOp (rho tmps) o).run P w = .ok (.value v) w' ∨ ((execOp (rho tmps) o).run P w = .ok .skip w' ∧ v = undef)) :
    Go.step P (lone (mkF fn kind tmps ds (.inRegion all (i :: L) :: k)) cs w) = .next (lone (mkF fn kind (pt tmps o.dst v) ds (.inRegion all L :: k)) cs w') := by
  rw [← fin_eq ho]
  rcases hr with hr | ⟨hr, rfl⟩
  · exact step_lone_go (by rw [stG ho hw]; simp [stepG.apply, hr])
  · exact step_lone_go (by rw [stG ho hw]; simp [stepG.apply, hr])

theorem st_enter (ho : all[i]? = some o) (hw : Region.wanted o (yielded all tmps) = true) {f : FuncId} {args : Array Value}
    (hr : (execOp (rho tmps) o).run P w = .ok (.enter f args) w') :
    Go.step P (lone (mkF fn kind tmps ds (.inRegion all (i :: L) :: k)) cs w) = .next (lone (Frame.enter P f args .normal) (mkF fn kind tmps ds (.inRegion all (i :: L) :: k) :: cs) w') :=
  step_lone_go (by rw [stG ho hw]; simp [stepG.apply, hr])

theorem st_defer (ho : all[i]? = some o) (hw : Region.wanted o (yielded all tmps) = true) {d : Deferred}
    (hr : (execOp (rho tmps) o).run P w = .ok (.defer d) w') :
    Go.step P (lone (mkF fn kind tmps ds (.inRegion all (i :: L) :: k)) cs w) = .next (lone (mkF fn kind (pt tmps o.dst undef) (d :: ds) (.inRegion all L :: k)) cs w') := by
  rw [← fin_eq ho]
  exact step_lone_go (by rw [stG ho hw]; simp only [stepG.apply, Sem.runT_eq, hr, GStep.bare_after]; rfl)

theorem st_panic (ho : all[i]? = some o) (hw : Region.wanted o (yielded all tmps) = true) {v : Value}
    (hr : (execOp (rho tmps) o).run P w = .halt (.panic v) w') :
    Go.step P (lone (mkF fn kind tmps ds (.inRegion all (i :: L) :: k)) cs w) = .next (lone ((mkF fn kind tmps ds (.inRegion all (i :: L) :: k)).raise [{ v, recovered := false }]) cs w') :=
  step_lone_go (by rw [stG ho hw]; simp [stepG.apply, hr])

theorem st_recover (ho : all[i]? = some o) (hw : Region.wanted o (yielded all tmps) = true) 
    (hr : (execOp (rho tmps) o).run P w = .ok .recover w') :
    Go.step P (lone (mkF fn kind tmps ds (.inRegion all (i :: L) :: k)) cs w) =
      .next (match tryRecover (mkF fn kind tmps ds (.inRegion all (i :: L) :: k)) cs with
        | some (v, cs') => lone (mkF fn kind (pt tmps o.dst v) ds (.inRegion all L :: k)) cs' w'
        | none => lone (mkF fn kind (pt tmps o.dst .nilIface) ds (.inRegion all L :: k)) cs w') := by
  cases ht : tryRecover (mkF fn kind tmps ds (.inRegion all (i :: L) :: k)) cs with
  | some p =>
    obtain ⟨v, cs'⟩ := p
    simp only []
    rw [← fin_eq ho]
    exact step_lone_go (by rw [stG ho hw]; simp [stepG.apply, hr, ht])
  | none =>
    simp only []
    rw [← fin_eq ho]
    exact step_lone_go (by rw [stG ho hw]; simp [stepG.apply, hr, ht])
end

/-! ### a region in its own order -/

theorem mkCls_drop (nt : Nat) (all : Array Oper) : ∀ (l : List Oper), mkCls P nt all l = l.map (mkCl P nt all)
  | [] => rfl
  | o :: l => by simp [mkCls, mkCls_drop nt all l]

theorem drop_cons {all : Array Oper} {j : Nat} {o : Oper} (h : all[j]? = some o) : all.toList.drop j = o :: all.toList.drop (j + 1) := by
  have hj : j < all.toList.length := by
    rcases Nat.lt_or_ge j all.size with x | x
    · simpa using x
    · simp [Array.getElem?_eq_none x] at h
  rw [List.drop_eq_getElem_cons hj]
  congr 1
  rw [Array.getElem?_eq_getElem (by simpa using hj)] at h
  simpa using h

/-- the operation at hand is a hard one, and not done -/
structure AtOp (P : Program) (ι : Inj) (s : S) (w : World) (all : Array Oper) (tmps : Array Value) (i : Nat) (o : Oper) (r : OR) : Prop where
  op : all[i]? = some o
  wanted : Region.wanted o (yielded all tmps) = true
  post : ∀ hb, hb ≤ s.nx → HdPost P hb ι s w (rho tmps) o r
  noval : ∀ v s', r ≠ .val v s'

structure OpsRun (P : Program) (hb : Nat) (fn : FuncId) (kind : CallKind) (ds : List Deferred) (all : Array Oper) (nt : Nat) (k : List Item) (cs : List Frame)
    (ι : Inj) (s : S) (w : World) (m : Machine) (g' : T Value) (s' : S) (ι' : Inj) (w' : World) (tmps' : Array Value) (todo : List Item) : Prop where
  steps : Steps P m (lone (mkF fn kind tmps' ds todo) cs w')
  tmps : TmpRel ι' g' tmps'
  size : tmps'.size = nt
  srel : SRel P ι' s' w'
  fm : Fm hb ι s w ι' s' w'

def OpsPost (P : Program) (hb : Nat) (fn : FuncId) (kind : CallKind) (ds : List Deferred) (all : Array Oper) (nt : Nat) (k : List Item) (cs : List Frame) (ι : Inj) (s : S) (w : World) (m : Machine) : RR → Prop
  | .fin g' s' => ∃ ι' w' tmps', OpsRun P hb fn kind ds all nt k cs ι s w m g' s' ι' w' tmps' k
  | .at_ l' g' s' r => ∃ ι' w' tmps' j o, OpsRun P hb fn kind ds all nt k cs ι s w m g' s' ι' w' tmps' (.inRegion all (j :: List.range' (j + 1) (all.size - (j + 1))) :: k) ∧
      l' = ⟨cr P o.op, o.dst, (l'.head?.map (·.gd)).getD .no⟩ :: mkCls P nt all (all.toList.drop (j + 1)) ∧ dstOk nt o.dst = true ∧ AtOp P ι' s' w' all tmps' j o r
  | .bad _ => True

theorem OpsPost.of_steps {hb : Nat} {fn : FuncId} {kind : CallKind} {ds : List Deferred} {all : Array Oper} {nt : Nat} {k : List Item} {cs : List Frame} {ι ι1 : Inj} {s s1 : S} {w w1 : World} {m m1 : Machine} {r : RR}
    (h : Steps P m m1) (f : Fm hb ι s w ι1 s1 w1) (k' : OpsPost P hb fn kind ds all nt k cs ι1 s1 w1 m1 r) : OpsPost P hb fn kind ds all nt k cs ι s w m r := by
  cases r with
  | fin g s => obtain ⟨a, b, c, d⟩ := k'; exact ⟨a, b, c, h.trans d.steps, d.tmps, d.size, d.srel, f.trans d.fm⟩
  | at_ l g s r => obtain ⟨a, b, c, j, o, d, e⟩ := k'; exact ⟨a, b, c, j, o, ⟨h.trans d.steps, d.tmps, d.size, d.srel, f.trans d.fm⟩, e⟩
  | bad => trivial

theorem hd_noval {r : OR} (h : ∀ v s, r ≠ .val v s) {α : Type} (f : Value → S → α) (x : OR → α) : (match r with | .val v s => f v s | r' => x r') = x r := by
  cases r <;> first | rfl | exact absurd rfl (h _ _)

theorem sim_ops {hb : Nat} {fn : FuncId} {kind : CallKind} {ds : List Deferred} {all : Array Oper} {nt : Nat} {k : List Item} {cs : List Frame} :
    ∀ (n j : Nat), j + n = all.size → ∀ (g : T Value) (s : S) (ι : Inj) (w : World) (tmps : Array Value), TmpRel ι g tmps → tmps.size = nt → SRel P ι s w → hb ≤ s.nx → s.lo ≤ s.nx →
      OpsPost P hb fn kind ds all nt k cs ι s w (lone (mkF fn kind tmps ds (.inRegion all (List.range' j n) :: k)) cs w) (runOps (mkCls P nt all (all.toList.drop j)) g s) := by
  intro n
  induction n with
  | zero =>
    intro j hj g s ι w tmps ht hn hS hhb hlo
    have : all.toList.drop j = [] := List.drop_eq_nil_of_le (by simp; omega)
    rw [this]
    exact ⟨ι, w, tmps, .one (step_region_end (b := bs fn kind) (a := ⟨tmps, ds⟩)), ht, hn, hS, Fm.refl _ _ _ _⟩
  | succ n ih =>
    intro j hj g s ι w tmps ht hn hS hhb hlo
    have hjl : j < all.size := by omega
    obtain ⟨o, ho⟩ : ∃ o, all[j]? = some o := ⟨_, Array.getElem?_eq_getElem hjl⟩
    rw [drop_cons ho]
    have hrg : List.range' j (n + 1) = j :: List.range' (j + 1) n := by simp [List.range'_succ]
    rw [hrg]
    have hnn : all.size - (j + 1) = n := by omega
    simp only [mkCls]
    rcases mkCl_cases (P := P) nt all o with hc | ⟨gd, hc, hm, hd, hgk⟩
    · rw [hc]; simp only [runOps, gdT, rdNo]; trivial
    · rw [hc]
      simp only [runOps]
      cases hgt : gdT gd g with
      | none => trivial
      | some b =>
        have hw := gd_rel hm hgk hn ht hgt
        cases b with
        | false =>
          simp only []
          refine .of_steps (.one (st_skip ho hw)) (Fm.refl hb ι s w) ?_
          exact ih (j + 1) (by omega) _ s ι w _ (ht.putD hn hd (.tuple .nil)) (by rw [pt_size]; exact hn) hS hhb hlo
        | true =>
          simp only []
          have hok := cr_ok (P := P) o
          have hrho := ht.rho o.op.operands.toList
          cases hcr : cr P o.op with
          | pu f =>
            rw [hcr] at hok
            simp only []
            cases hf : f g with
            | none => trivial
            | some v =>
              simp only []
              obtain ⟨v', hv, hrun⟩ := hok ι g _ v hf hrho
              refine .of_steps (.one (st_value ho hw (.inl (hrun w)))) (Fm.refl hb ι s w) ?_
              exact ih (j + 1) (by omega) _ s ι w _ (ht.putD hn hd hv) (by rw [pt_size]; exact hn) hS hhb hlo
          | rd f =>
            rw [hcr] at hok
            simp only []
            cases hf : f g s with
            | none => trivial
            | some v =>
              simp only []
              obtain ⟨v', hv, hrun⟩ := hok ι s w g _ v hf hS hrho
              refine .of_steps (.one (st_value ho hw (.inl hrun))) (Fm.refl hb ι s w) ?_
              exact ih (j + 1) (by omega) _ s ι w _ (ht.putD hn hd hv) (by rw [pt_size]; exact hn) hS hhb hlo
          | al f =>
            rw [hcr] at hok
            simp only []
            cases hf : f g with
            | none => trivial
            | some om =>
              obtain ⟨ob, mk⟩ := om
              simp only []
              obtain ⟨hp, hall⟩ := hok ι g _ ob mk hf hrho
              obtain ⟨top, o', w', v', hpush, hrun, hrel⟩ := hall w
              have hfr : ι s.nx = none := hS.fresh _ (Nat.le_refl _)
              have hx := Ext.up ⟨w.heap.size, 0, top⟩ hfr
              obtain ⟨r1, r2⟩ := hrel _ s.nx hx (Inj.up_self _ _ _)
              have hF := Fm.push (hb := hb) (o := ob) hS hhb hlo (top := top) hpush
              refine .of_steps (.one (st_value ho hw (.inl hrun))) hF ?_
              exact ih (j + 1) (by omega) _ _ _ _ _ ((ht.mono hx).putD hn hd r2) (by rw [pt_size]; exact hn) (hS.push hp hpush r1) (by rw [S.push_nx]; omega) (by rw [S.push_nx, S.push_lo]; omega)
          | hd f =>
            rw [hcr] at hok
            simp only []
            by_cases hval : ∃ v s1, f g s = .val v s1
            · obtain ⟨v, s1, hf⟩ := hval
              rw [hf]
              simp only []
              have hpost := hok hb ι s w g _ hS hhb hlo hrho
              rw [hf] at hpost
              obtain ⟨ι', w', v', hrun, hv, hS', hF⟩ := hpost
              refine .of_steps (.one (st_value ho hw hrun)) hF ?_
              have := hF.nx; have := hF.lo
              exact ih (j + 1) (by omega) _ _ _ _ _ ((ht.mono hF.ext).putD hn hd hv) (by rw [pt_size]; exact hn) hS' (by omega) (by omega)
            · have hnv : ∀ v s1, f g s ≠ .val v s1 := fun v s1 h => hval ⟨v, s1, h⟩
              have fin : OpsPost P hb fn kind ds all nt k cs ι s w (lone (mkF fn kind tmps ds (.inRegion all (j :: List.range' (j + 1) n) :: k)) cs w)
                  (.at_ (⟨.hd f, o.dst, gd⟩ :: mkCls P nt all (all.toList.drop (j + 1))) g s (f g s)) := by
                refine ⟨ι, w, tmps, j, o, ⟨by rw [hnn]; exact .refl _ _, ht, hn, hS, Fm.refl _ _ _ _⟩, ?_, hd, ho, hw, ?_, hnv⟩
                · rw [hcr]; rfl
                · intro hb' hle
                  exact hok hb' ι s w g _ hS hle hlo hrho
              cases hr : f g s with
              | val v s1 => exact absurd hr (hnv _ _)
              | _ => rw [hr] at fin; exact fin

end Go.AM
