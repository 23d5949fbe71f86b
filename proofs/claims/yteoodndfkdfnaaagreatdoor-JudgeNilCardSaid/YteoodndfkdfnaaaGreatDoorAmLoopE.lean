/- Loops over maps: the model's steps. -/
import Derived.Test.YteoodndfkdfnaaaGreatDoorAmLoopD
namespace Go.AM
variable {P : Program} {K : Known} {w0 : World}

structure PatOf (c : Code) (id : Nat) (p : Pat) : Prop where
  ex : ∃ i1 i2 ops1 o1 o2 o3, c = .seq (.region i1 ops1 false) (.seq (.cond (.tmp p.tok) .skip (.exit id)) (.block p.id2 (.seq (.region i2 p.all false) p.rest))) ∧
    ops1 = #[o1, o2] ∧ o1.dst = some p.tn ∧ o1.op = .next (.tmp p.it) false ∧ o1.guard = none ∧ o2.dst = some p.tok ∧ o2.op = .extract (.tmp p.tn) 0 ∧ o2.guard = none ∧
    p.all.toList = o3 :: p.ops ∧ o3.dst = some p.te ∧ o3.op = .entry (.tmp p.it) ∧ o3.guard = none
  n1 : p.it ≠ p.tn
  n2 : p.it ≠ p.tok
  n3 : p.it ≠ p.te
  n4 : p.tn ≠ p.tok

theorem patOf_spec {c : Code} {id : Nat} {p : Pat} (h : patOf c id = some p) : PatOf c id p := by
  unfold patOf at h
  split at h
  · rename_i i1 ops1 tok id' id2 i2 ops2 rest
    split at h
    · rename_i tn it a1 a2 a3 tok' tn' b1 b2 b3 te it' c1 c2 c3 ops e1 e2
      cases hk : Nat.beq id id' && Nat.beq tok tok' && Nat.beq tn tn' && Nat.beq it it' && !Nat.beq it tn && !Nat.beq it tok && !Nat.beq it te && !Nat.beq tn tok with
      | false => rw [hk] at h; cases h
      | true =>
        rw [hk] at h; simp only [cond_true, Option.some.injEq] at h; subst h
        simp only [Bool.and_eq_true, Nat.beq_eq, Bool.not_eq_true'] at hk
        obtain ⟨⟨⟨⟨⟨⟨⟨rfl, rfl⟩, rfl⟩, rfl⟩, n1⟩, n2⟩, n3⟩, n4⟩ := hk
        have ne : ∀ {a b : Nat}, Nat.beq a b = false → a ≠ b := fun x e => by rw [e, Nat.beq_refl] at x; cases x
        refine ⟨⟨i1, i2, ops1, ⟨some tn, .next (.tmp it) false, a1, a2, a3, none⟩, ⟨some tok, .extract (.tmp tn) 0, b1, b2, b3, none⟩, ⟨some te, .entry (.tmp it), c1, c2, c3, none⟩, rfl, ?_, rfl, rfl, rfl, rfl, rfl, rfl, e2, rfl, rfl, rfl⟩, ne n1, ne n2, ne n3, ne n4⟩
        rw [← Array.toArray_toList (xs := ops1), e1]
    · cases h
  · cases h

theorem wanted_none {o : Oper} {f : Nat → Option Bool} (h : o.guard = none) : Region.wanted o f = true := by simp [Region.wanted, h]

theorem rho_pt {tmps : Array Value} {d t : Tmp} {v : Value} (h : d ≠ t) : rho (pt tmps (some d) v) (.tmp t) = rho tmps (.tmp t) := by
  show (pt tmps (some d) v).getD t undef = tmps.getD t undef
  exact pt_get (by simpa using h)
theorem rho_pt_self {tmps : Array Value} {d : Tmp} {v : Value} (h : d < tmps.size) : rho (pt tmps (some d) v) (.tmp d) = v := by
  show (pt tmps (some d) v).getD d undef = v
  exact pt_self h

section
variable {fn nt : Nat} {kind : CallKind} {tmps : Array Value} {ds' : List Deferred} {cs : List Frame} {Kl : List Item} {w wa : World} {c : Code} {id : Nat} {p : Pat} {rb : Nat}

/-- one more entry -/
theorem iter_begin (hp : PatOf c id p) (hsz : tmps.size = nt) (htn : p.tn < nt) (htok : p.tok < nt) (hit : rho tmps (.tmp p.it) = .pointer (some ⟨rb, 0, none⟩)) {e : MapEntry}
    (hnext : ∀ t, (Instr.next (.pointer (some ⟨rb, 0, none⟩)) false t).run P w = .ok (.tuple #[.bool true, e.key, e.val]) wa) (hentry : (Instr.entry (.pointer (some ⟨rb, 0, none⟩))).run P wa = .ok (.tuple #[e.key, e.val]) wa) :
    Steps P (lone (mkF fn kind tmps ds' (.code c :: Kl)) cs w)
      (lone (mkF fn kind (pt (pt (pt tmps (some p.tn) (.tuple #[.bool true, e.key, e.val])) (some p.tok) (.bool true)) (some p.te) (.tuple #[e.key, e.val])) ds'
        (.inRegion p.all (List.range' 1 (p.all.size - 1)) :: .code p.rest :: .inBlock p.id2 :: Kl)) cs wa) := by
  obtain ⟨⟨i1, i2, ops1, o1, o2, o3, rfl, rfl, d1, q1, g1, d2, q2, g2, hall, d3, q3, g3⟩, n1, n2, n3, n4⟩ := hp
  have hsz3 : p.all.size = p.ops.length + 1 := by rw [← Array.length_toList, hall]; simp
  have ho3 : p.all[0]? = some o3 := by rw [← Array.getElem?_toList, hall]; rfl
  refine .head (step_seq (b := bs fn kind) (a := ⟨tmps, ds'⟩)) (.head (step_region (b := bs fn kind) (a := ⟨tmps, ds'⟩)) ?_)
  have hr2 : List.range (#[o1, o2] : Array Oper).size = [0, 1] := rfl
  rw [hr2]
  have hs1 := st_value (P := P) (fn := fn) (kind := kind) (tmps := tmps) (ds := ds') (all := #[o1, o2]) (i := 0) (L := [1]) (k := .code (.seq (.cond (.tmp p.tok) .skip (.exit id)) (.block p.id2 (.seq (.region i2 p.all false) p.rest))) :: Kl) (cs := cs) (o := o1) rfl (wanted_none g1)
    (.inl (show (execOp (rho tmps) o1).run P w = .ok (.value (.tuple #[.bool true, e.key, e.val])) wa by simp only [execOp, q1, hit, Sem.run_bind, hnext, Result.andThen_ok, Sem.run_pure]))
  refine .head hs1 ?_
  rw [d1]
  have hs2 := st_value (P := P) (fn := fn) (kind := kind) (tmps := pt tmps (some p.tn) (.tuple #[.bool true, e.key, e.val])) (ds := ds') (all := #[o1, o2]) (i := 1) (L := []) (k := .code (.seq (.cond (.tmp p.tok) .skip (.exit id)) (.block p.id2 (.seq (.region i2 p.all false) p.rest))) :: Kl) (cs := cs) (o := o2) (w := wa) (w' := wa) (v := .bool true) rfl (wanted_none g2)
    (.inl (by
      have : rho (pt tmps (some p.tn) (.tuple #[.bool true, e.key, e.val])) (.tmp p.tn) = .tuple #[.bool true, e.key, e.val] := rho_pt_self (by rw [hsz]; exact htn)
      simp [execOp, q2, this, Instr.extract]))
  refine .head hs2 ?_
  rw [d2]
  refine .head (step_region_end (b := bs fn kind) (a := ⟨_, ds'⟩)) (.head (step_seq (b := bs fn kind) (a := ⟨_, ds'⟩)) ?_)
  have hcond : (Act.mk (pt (pt tmps (some p.tn) (.tuple #[.bool true, e.key, e.val])) (some p.tok) (.bool true)) ds').eval (.tmp p.tok) = .bool true := by
    rw [rho_eq]; exact rho_pt_self (by rw [pt_size, hsz]; exact htok)
  refine .head (step_cond (b := bs fn kind) hcond) (.head (step_skip (b := bs fn kind) (a := ⟨_, ds'⟩)) (.head (step_block (b := bs fn kind) (a := ⟨_, ds'⟩)) (.head (step_seq (b := bs fn kind) (a := ⟨_, ds'⟩)) (.head (step_region (b := bs fn kind) (a := ⟨_, ds'⟩)) ?_))))
  have hr3 : List.range p.all.size = 0 :: List.range' 1 (p.all.size - 1) := by
    rw [hsz3, List.range_eq_range', List.range'_succ]; rfl
  rw [hr3]
  have hit3 : rho (pt (pt tmps (some p.tn) (.tuple #[.bool true, e.key, e.val])) (some p.tok) (.bool true)) (.tmp p.it) = .pointer (some ⟨rb, 0, none⟩) := by
    rw [rho_pt (Ne.symm n2), rho_pt (Ne.symm n1)]; exact hit
  have hs3 := st_value (P := P) (fn := fn) (kind := kind) (tmps := pt (pt tmps (some p.tn) (.tuple #[.bool true, e.key, e.val])) (some p.tok) (.bool true)) (ds := ds') (all := p.all) (i := 0) (L := List.range' 1 (p.all.size - 1)) (k := .code p.rest :: .inBlock p.id2 :: Kl) (cs := cs) (o := o3) (w := wa) (w' := wa) (v := .tuple #[e.key, e.val]) ho3 (wanted_none g3)
    (.inl (by simp only [execOp, q3, hit3, Sem.run_bind, hentry, Result.andThen_ok, Sem.run_pure]))
  refine .head hs3 ?_
  rw [d3]
  exact .refl _ _

/-- the round's end -/
theorem iter_end {todo : List Item} : Steps P (lone (mkF fn kind tmps ds' (.inBlock p.id2 :: .inLoop c :: todo)) cs w) (lone (mkF fn kind tmps ds' (.code c :: .inLoop c :: todo)) cs w) :=
  .head (step_inBlock (b := bs fn kind) (a := ⟨tmps, ds'⟩)) (.one (step_inLoop (b := bs fn kind) (a := ⟨tmps, ds'⟩)))

/-- no more entries -/
theorem iter_over (hp : PatOf c id p) (hsz : tmps.size = nt) (htn : p.tn < nt) (htok : p.tok < nt) (hit : rho tmps (.tmp p.it) = .pointer (some ⟨rb, 0, none⟩)) {k' : List Item}
    (hnext : ∀ t, (Instr.next (.pointer (some ⟨rb, 0, none⟩)) false t).run P w = .ok (.tuple #[.bool false]) wa) :
    Steps P (lone (mkF fn kind tmps ds' (.code c :: .inLoop c :: .inBlock id :: k')) cs w)
      (lone (mkF fn kind (pt (pt tmps (some p.tn) (.tuple #[.bool false])) (some p.tok) (.bool false)) ds' k') cs wa) := by
  obtain ⟨⟨i1, i2, ops1, o1, o2, o3, hc, rfl, d1, q1, g1, d2, q2, g2, hall, d3, q3, g3⟩, n1, n2, n3, n4⟩ := hp
  generalize hcl : (Item.inLoop c :: .inBlock id :: k') = Kl
  rw [hc]
  refine .head (step_seq (b := bs fn kind) (a := ⟨tmps, ds'⟩)) (.head (step_region (b := bs fn kind) (a := ⟨tmps, ds'⟩)) ?_)
  have hr2 : List.range (#[o1, o2] : Array Oper).size = [0, 1] := rfl
  rw [hr2]
  have hs1 := st_value (P := P) (fn := fn) (kind := kind) (tmps := tmps) (ds := ds') (all := #[o1, o2]) (i := 0) (L := [1]) (k := .code (.seq (.cond (.tmp p.tok) .skip (.exit id)) (.block p.id2 (.seq (.region i2 p.all false) p.rest))) :: Kl) (cs := cs) (o := o1) rfl (wanted_none g1)
    (.inl (show (execOp (rho tmps) o1).run P w = .ok (.value (.tuple #[.bool false])) wa by simp only [execOp, q1, hit, Sem.run_bind, hnext, Result.andThen_ok, Sem.run_pure]))
  refine .head hs1 ?_
  rw [d1]
  have hs2 := st_value (P := P) (fn := fn) (kind := kind) (tmps := pt tmps (some p.tn) (.tuple #[.bool false])) (ds := ds') (all := #[o1, o2]) (i := 1) (L := []) (k := .code (.seq (.cond (.tmp p.tok) .skip (.exit id)) (.block p.id2 (.seq (.region i2 p.all false) p.rest))) :: Kl) (cs := cs) (o := o2) (w := wa) (w' := wa) (v := .bool false) rfl (wanted_none g2)
    (.inl (by
      have : rho (pt tmps (some p.tn) (.tuple #[.bool false])) (.tmp p.tn) = .tuple #[.bool false] := rho_pt_self (by rw [hsz]; exact htn)
      simp [execOp, q2, this, Instr.extract]))
  refine .head hs2 ?_
  rw [d2]
  refine .head (step_region_end (b := bs fn kind) (a := ⟨_, ds'⟩)) (.head (step_seq (b := bs fn kind) (a := ⟨_, ds'⟩)) ?_)
  have hcond : (Act.mk (pt (pt tmps (some p.tn) (.tuple #[.bool false])) (some p.tok) (.bool false)) ds').eval (.tmp p.tok) = .bool false := by
    rw [rho_eq]; exact rho_pt_self (by rw [pt_size, hsz]; exact htok)
  refine .head (step_cond (b := bs fn kind) hcond) (.one (step_exit (b := bs fn kind) (a := ⟨_, ds'⟩) ?_))
  rw [← hcl]
  simp [exitTo]

end

variable {fn nt : Nat} {g0 : T Value} {p : Pat} {ι : Inj} {s : S} {ws : World} {r m m0 : Nat} {lr lm lm0 : Loc} {c c0 : Nat} {srcE : Array MapEntry} {es0 : List (Value × Value)} {kk : KeyKind} {Z : List (RD × MapEntry)} {nxE : Nat}
  {kind : CallKind} {ds' : List Deferred} {cs : List Frame}

theorem startG_rel {tmps : Array Value} {k v k' v' : Value} (ht : TmpRel ι g0 tmps) (hsz : tmps.size = nt) (htn : p.tn < nt) (htok : p.tok < nt) (hte : p.te < nt) (hk : VRel ι k k') (hv : VRel ι v v') :
    TmpRel ι (startG p g0 k v) (pt (pt (pt tmps (some p.tn) (.tuple #[.bool true, k', v'])) (some p.tok) (.bool true)) (some p.te) (.tuple #[k', v'])) := by
  have dk : ∀ {t : Tmp}, t < nt → dstOk nt (some t) = true := fun h => by simpa [dstOk] using h
  have h1 := ht.putD hsz (dst := some p.tn) (dk htn) (v := .tuple #[.bool true, k, v]) (v' := .tuple #[.bool true, k', v']) (.tuple (.cons (.bool _) (.cons hk (.cons hv .nil))))
  have h2 := h1.putD (by rw [pt_size]; exact hsz) (dst := some p.tok) (dk htok) (.bool true)
  exact h2.putD (by rw [pt_size, pt_size]; exact hsz) (dst := some p.te) (dk hte) (v := .tuple #[k, v]) (v' := .tuple #[k', v']) (.tuple (.cons hk (.cons hv .nil)))

theorem loop_all (hK : KnownOk P K w0) (hmix : P.follows .mixedOrders = true) (h : LCtx P K w0 fn nt g0 p ι s ws r m m0 lr lm lm0 c c0 srcE es0 kk Z nxE) {code : Code} {id : Nat} (hpat : PatOf code id p)
    (htn : p.tn < nt) (htok : p.tok < nt) (hte : p.te < nt) {sp : Option Nat} (hit : ev g0 (.tmp p.it) = .pointer (some ⟨r, 0, sp⟩)) (hfunc : ∃ f, P.funcs[fn]? = some f) {k' : List Item} :
    ∀ (n : Nat) (Zr Zd : List (RD × MapEntry)) (ιd : Inj) (hd : T AObj) (w : World) (tmps : Array Value), Zr.length = n → (Zd ++ Zr).Perm Z → LI P g0 nt ι s ws r m m0 lr lm c c0 srcE es0 nxE Zd ιd hd w tmps →
      ∃ Zd' ιd' hd' w' w'' tmps', Zd'.Perm Z ∧ LI P g0 nt ι s ws r m m0 lr lm c c0 srcE es0 nxE Zd' ιd' hd' w' tmps' ∧ WSame w' w'' ∧
        Steps P (lone (mkF fn kind tmps ds' (.code code :: .inLoop code :: .inBlock id :: k')) cs w) (lone (mkF fn kind (pt (pt tmps' (some p.tn) (.tuple #[.bool false])) (some p.tok) (.bool false)) ds' k') cs w'') := by
  intro n
  induction n with
  | zero =>
    intro Zr Zd ιd hd w tmps hlen hperm hL
    have hZr : Zr = [] := List.eq_nil_of_length_eq_zero hlen
    subst hZr
    simp only [List.append_nil] at hperm
    have hitc : rho tmps (.tmp p.it) = .pointer (some ⟨lr.blk, 0, none⟩) := by
      have := hL.trel p.it
      rw [hit] at this
      obtain ⟨l, h1, h2⟩ := this.ptr_inv
      rw [h.ir] at h1; cases h1
      rw [h.base] at h2
      exact h2
    have hno : ∀ e ∈ srcE.toList, ((Zd.map (·.2.born)).toArray).contains e.born = true := by
      intro e he
      have : e ∈ Zd.map (·.2) := ((hperm.map _).trans h.zperm).mem_iff.2 he
      obtain ⟨z, hz, rfl⟩ := List.mem_map.1 this
      simp only [List.contains_toArray, List.contains_eq_mem, decide_eq_true_eq, List.mem_map]
      exact ⟨z, hz, rfl⟩
    have hnx : ∃ w', (∀ t, (Instr.next (.pointer (some ⟨lr.blk, 0, none⟩)) false t).run P w = .ok (.tuple #[.bool false]) w') ∧ WSame w w' := by
      rcases next_run (P := P) hL.iter hL.src h.born 0 with ⟨_, w', h1, h2⟩ | ⟨e, he, hns, _⟩
      · exact ⟨w', fun t => h1, h2⟩
      · rw [hno e he] at hns; cases hns
    obtain ⟨w', h1, h2⟩ := hnx
    exact ⟨Zd, ιd, hd, w, w', tmps, hperm, hL, h2, iter_over hpat hL.tsz htn htok hitc h1⟩
  | succ n ih =>
    intro Zr Zd ιd hd w tmps hlen hperm hL
    have hitc : rho tmps (.tmp p.it) = .pointer (some ⟨lr.blk, 0, none⟩) := by
      have := hL.trel p.it
      rw [hit] at this
      obtain ⟨l, h1, h2⟩ := this.ptr_inv
      rw [h.ir] at h1; cases h1
      rw [h.base] at h2
      exact h2
    have hnd : ((Zd ++ Zr).map (·.2.born)).Nodup := by
      have : ((Zd ++ Zr).map (·.2)).Perm srcE.toList := (hperm.map _).trans h.zperm
      have h2 := (this.map (·.born)).nodup_iff.2 h.nodup
      simpa [List.map_map, Function.comp_def] using h2
    have hseen : ∀ z ∈ Zr, ((Zd.map (·.2.born)).toArray).contains z.2.born = false := by
      intro z hz
      cases hc : ((Zd.map (·.2.born)).toArray).contains z.2.born with
      | false => rfl
      | true =>
        exfalso
        simp only [List.contains_toArray, List.contains_eq_mem, decide_eq_true_eq, List.mem_map] at hc
        obtain ⟨y, hy, e⟩ := hc
        rw [List.map_append, List.nodup_append] at hnd
        exact hnd.2.2 _ (List.mem_map_of_mem (f := fun z : RD × MapEntry => z.2.born) hy) _ (List.mem_map_of_mem (f := fun z : RD × MapEntry => z.2.born) hz) e
    rcases next_run (P := P) hL.iter hL.src h.born 0 with ⟨hall, _⟩ | ⟨e, he, hns, wa, hrun, hput⟩
    · exfalso
      cases Zr with
      | nil => simp at hlen
      | cons z Zr =>
        have hz : z.2 ∈ srcE.toList := ((hperm.map (·.2)).trans h.zperm).mem_iff.1 (by simp)
        have h1 := hall z.2 hz
        rw [hseen z (by simp)] at h1; cases h1
    · -- which one it is
      have hez : e ∈ (Zd ++ Zr).map (·.2) := ((hperm.map (·.2)).trans h.zperm).mem_iff.2 he
      obtain ⟨z, hzm, hze⟩ := List.mem_map.1 hez
      have hzr : z ∈ Zr := by
        rcases List.mem_append.1 hzm with hz | hz
        · exfalso
          have : ((Zd.map (·.2.born)).toArray).contains e.born = true := by
            simp only [List.contains_toArray, List.contains_eq_mem, decide_eq_true_eq, List.mem_map]
            exact ⟨z, hz, by rw [hze]⟩
          rw [hns] at this; cases this
        · exact hz
      subst hze
      obtain ⟨A, B, rfl⟩ := List.append_of_mem hzr
      obtain ⟨hza, hzb, hzc, hzd⟩ := h.apart hperm
      have hzZ : z ∈ Z := hperm.mem_iff.1 (by simp)
      obtain ⟨rk, rv⟩ := h.zrel z hzZ
      have hrd := h.rd z hzZ
      have hsrcA : wa.heap[lm.blk]? = some (.map srcE c) := by rw [hput.other _ h.blk_rm.symm]; exact hL.src
      have hent := entry_run (P := P) hput.at_ hsrcA he h.nodup
      have hbeg := iter_begin (P := P) (fn := fn) (kind := kind) (ds' := ds') (cs := cs) (Kl := .inLoop code :: .inBlock id :: k') hpat hL.tsz htn htok hitc (fun _ => hrun) hent
      have hT3 := startG_rel (p := p) hL.trel hL.tsz htn htok hte rk rv
      -- what the round finds
      have innA : SRel P ι ⟨innerH s.h r m m0, z.1.nx, z.1.nx⟩ wa := by
        refine SRel.shift (n := s.nx) (lo := s.nx) (hL.inner.touch hput ?_) hza
        intro i l o hi hl hg
        rcases h.inner_dead (.inl rfl) hi hl hg with e' | e'
        · exfalso
          subst e'
          simp only at hg
          rw [innerH_get] at hg
          by_cases e1 : i = m0
          · subst e1; rw [h.im0] at hi; cases hi; exact h.blk_rm0 hl.symm
          · rw [if_neg e1] at hg
            by_cases e2 : i = m
            · subst e2; rw [h.im] at hi; cases hi; exact h.blk_rm hl.symm
            · rw [if_neg e2] at hg
              by_cases e3 : i = r
              · rw [if_pos e3] at hg; cases hg
              · rw [if_neg e3] at hg
                have := h.srel.alone h.ir hi (Ne.symm e3) hl.symm h.gr hg (by intro x; simp)
                simp [Dead] at this
        · cases o with
          | blk b => obtain ⟨bc, bn, be, bp, bst⟩ := b; exact .dead _ e'
          | _ => exact absurd e' (by simp [Dead])
      have hini : Ini w0 ι ⟨innerH s.h r m m0, z.1.nx, z.1.nx⟩ wa := by
        have hgr := h.ge (.inl rfl)
        refine ⟨by rw [hput.size]; exact Nat.le_trans h.ini.size hL.size, fun b hb => ?_, fun b hb ho => h.ini.own b hb (h.owned_of ho), by rw [hput.out, hL.out, h.ini.out], by rw [hput.os, hL.os, h.ini.os], by rw [hput.tape, hL.tape, h.ini.tape]⟩
        rw [hput.other b (by omega), hL.heap b (Nat.lt_of_lt_of_le hb h.ini.size) (h.ini.own b hb), h.ini.same b hb]
      have hdead : ∀ i l o, ι i = some l → l.blk = lm0.blk → (innerH s.h r m m0).get i = some o → i ≠ m0 → Dead o := by
        intro i l o hi hl hg hne
        rcases h.inner_dead (.inr (.inr rfl)) hi hl hg with e' | e'
        · exfalso
          subst e'
          rw [innerH_get, if_neg hne] at hg
          by_cases e2 : i = m
          · subst e2; rw [h.im] at hi; cases hi; exact h.blk_mm0 hl
          · rw [if_neg e2] at hg
            by_cases e3 : i = r
            · rw [if_pos e3] at hg; cases hg
            · rw [if_neg e3] at hg
              have := h.srel.alone h.im0 hi (Ne.symm hne) hl.symm h.gm0 hg (by intro x; simp)
              simp [Dead] at this
        · exact e'
      have hιd : Ext ι ιd := fun i l hl => by rw [hL.low i (h.lt_nx hl)]; exact hl
      obtain ⟨od, ho1, ho2⟩ := hL.srel.obj m0 lm0 _ (hιd _ _ h.im0) hL.getm0
      cases ho2 with
      | map y1 y2 y3 y4 y5 =>
        rename_i dE dl
        have hdmA : wa.heap[lm0.blk]? = some (.map dE (c0 + Zd.length)) := by rw [hput.other _ h.blk_rm0.symm]; exact ho1
        have hnone : ∀ i, z.1.nx ≤ i → i < z.1.nx' → ιd i = none := by
          intro i ha hb
          cases hi : ιd i with
          | none => rfl
          | some l =>
            exfalso
            obtain ⟨_, y, hy, y1, y2⟩ := hL.hi i l (by omega) hi
            have := (hzd y hy).2.2.2
            omega
        have hpwZ : (es0 ++ newEs ((Zd ++ (A ++ z :: B)).map (·.1))).Pairwise (fun a b => KeyNe a.1 b.1) := by
          have hpm : (es0 ++ newEs (Z.map (·.1))).Perm (es0 ++ newEs ((Zd ++ (A ++ z :: B)).map (·.1))) := by
            refine List.Perm.append_left _ ?_
            unfold newEs
            exact ((hperm.symm.map _).map _)
          exact (List.Perm.pairwise_iff (fun {_ _} x => KeyNe.symm x) hpm).1 h.pw
        have hkN : ∀ q ∈ es0 ++ newEs (Zd.map (·.1)), KeyNe z.1.kx q.1 := by
          intro q hq
          have e1 : es0 ++ newEs ((Zd ++ (A ++ z :: B)).map (·.1)) = (es0 ++ newEs (Zd.map (·.1))) ++ newEs ((A ++ z :: B).map (·.1)) := by
            simp [newEs]
          rw [e1, List.pairwise_append] at hpwZ
          refine (hpwZ.2.2 q hq (z.1.kx, z.1.x) ?_).symm
          simp [newEs]
        have hkO : ∀ q ∈ es0 ++ newEs (Zd.map (·.1)), keyOk kk q.1 = true := by
          intro q hq
          rcases List.mem_append.1 hq with hq | hq
          · exact h.ks (List.ne_nil_of_mem hzZ) q hq
          · unfold newEs at hq
            obtain ⟨rd, hrd1, rfl⟩ := List.mem_map.1 hq
            obtain ⟨y, hy, rfl⟩ := List.mem_map.1 hrd1
            exact (h.rd y (hperm.mem_iff.1 (by simp [hy]))).2
        obtain ⟨o3, ho3⟩ : ∃ o3, p.all.toList = o3 :: p.ops := by
          obtain ⟨_, _, _, _, _, o3, _, _, _, _, _, _, _, _, x, _⟩ := hpat.ex
          exact ⟨o3, x⟩
        obtain ⟨ι2, s2, w2, tmps', st, hRnd, e1, e2, ht', hsz', dE', hd1, hd2⟩ := round_ok (P := P) (kind := kind) (ds' := ds') (cs := cs) (Kin := .inBlock p.id2 :: .inLoop code :: .inBlock id :: k') hK hmix hrd innA hini (h.ge (.inr rfl)) hdead h.im0
          (by rw [innerH_get, if_pos rfl]) (by have := h.lt_nx h.im0; omega) hfunc (by rw [ho3]; rfl) (by rw [← Array.length_toList, ho3]; simp) hT3 (by rw [pt_size, pt_size, pt_size]; exact hL.tsz) hL.trel hL.tsz
          hdmA (.map y1 y2 y3 y4 y5) hιd hnone hkO hkN
        have hL' := hL.step h hperm hput hRnd e1 e2 ht' hsz' hd1 hd2
        have hperm' : ((Zd ++ [z]) ++ (A ++ B)).Perm Z := by
          refine List.Perm.trans ?_ hperm
          rw [List.append_assoc]
          exact List.Perm.append_left _ (show (z :: (A ++ B)).Perm (A ++ z :: B) from List.perm_middle.symm)
        obtain ⟨Zd', ιd', hd', w', w'', tm, f1, f2, f3, f4⟩ := ih (A ++ B) (Zd ++ [z]) _ _ w2 tmps' (by simp at hlen ⊢; omega) hperm' hL'
        exact ⟨Zd', ιd', hd', w', w'', tm, f1, f2, f3, hbeg.trans (st.trans (iter_end.trans f4))⟩

end Go.AM
