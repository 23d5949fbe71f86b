/- Whole runs. -/
import Derived.Test.YteoodndfkdfnaaaGreatDoorAmLoopE
namespace Go.AM
variable {P : Program} {K : Known} {w0 : World} {B : Base}

theorem SRel.congr {ι : Inj} {s s' : S} {w : World} (h : SRel P ι s w) (hg : ∀ id, ι id ≠ none → s'.h.get id = s.h.get id) (hn : s'.nx = s.nx) : SRel P ι s' w := by
  have hs : ∀ {id l}, ι id = some l → s'.h.get id = s.h.get id := fun a => hg _ (by rw [a]; simp)
  refine ⟨fun id l o a b => h.obj id l o a (by rw [← hs a]; exact b), fun id a => h.fresh id (by rw [← hn]; exact a), h.bound, fun id1 id2 l1 l2 o1 o2 a b c d e f => h.alias id1 id2 l1 l2 o1 o2 a b c d (by rw [← hs b]; exact e) (by rw [← hs c]; exact f), ?_⟩
  intro id o p a b c d
  obtain ⟨x, y⟩ := h.par id o p (by rw [← hg id b]; exact a) b c d
  exact ⟨x, fun o' ho' => y o' (by rw [← hg p x]; exact ho')⟩

theorem zip_rel {ι : Inj} : ∀ {R : List RD} {es : List (Value × Value)} {lst : List MapEntry}, R.map (fun r => (r.k, r.v)) = es → EsRel ι es lst →
    ∃ Z : List (RD × MapEntry), Z.map (·.1) = R ∧ Z.map (·.2) = lst ∧ ∀ z ∈ Z, VRel ι z.1.k z.2.key ∧ VRel ι z.1.v z.2.val
  | [], _, _, rfl, .nil => ⟨[], rfl, rfl, fun z hz => by simp at hz⟩
  | r :: R, _, _, rfl, .cons a b c => by
    obtain ⟨Z, h1, h2, h3⟩ := zip_rel rfl c
    refine ⟨(r, _) :: Z, by simp [h1], by simp [h2]; rfl, fun z hz => ?_⟩
    rcases List.mem_cons.1 hz with rfl | hz
    · exact ⟨a, b⟩
    · exact h3 z hz

theorem mapLoop_ok (hK : KnownOk P K w0) (hmix : P.follows .mixedOrders = true) {ι : Inj} {hb : Nat} {sf : Suf} {fn nt : Nat} {g : T Value} {ds : List ADef} {d : Bool} {rest : List Fr} {s : S} {kind : CallKind} {tmps : Array Value} {ds' : List Deferred} {cs : List Frame} {w : World}
    (h : Run1 P B w0 ι hb sf fn nt g ds d rest s kind tmps ds' cs w) (ht : TmpRel ι g tmps) {c : Code} {id : Nat} {p : Pat} (hpat : patOf c id = some p) {g' : T Value} {s' : S} (hm : mapLoop P K fn nt g p s = some (g', s'))
    {k : List AItem} {k' : List Item} (hk : ItsRel P nt ι sf.K k k') :
    ResPost' P B w0 ι s w (lone (mkF fn kind tmps ds' (.code (.loop c) :: .inBlock id :: k')) cs w) (.next ⟨⟨fn, nt, g', k, ds, .run, d, none⟩ :: rest, s'⟩) := by
  have hP := patOf_spec hpat
  unfold mapLoop at hm
  simp only [] at hm
  have hclr : ev (clearT (p.tn :: p.tok :: p.te :: (dstsL p.ops ++ dstsC p.rest)) g) (.tmp p.tn) = poi := clearT_mem (by simp)
  have ht0 := clearT_rel (p.tn :: p.tok :: p.te :: (dstsL p.ops ++ dstsC p.rest)) ht
  generalize clearT (p.tn :: p.tok :: p.te :: (dstsL p.ops ++ dstsC p.rest)) g = g0 at hm hclr ht0
  cases hit : ev g0 (.tmp p.it) with
  | pointer a =>
    cases a with
    | none => simp [hit] at hm
    | some a =>
      obtain ⟨r, off, sp⟩ := a
      cases off with
      | succ n => simp [hit] at hm
      | zero =>
        cases hut : updTmp p.rest with
        | none => simp [hit, hut] at hm
        | some q =>
          obtain ⟨mt, ty⟩ := q
          simp only [hit, hut] at hm
          cases hst : ev g0 (.tmp (srcTmp p.rest mt)) with
          | map mm =>
            cases mm with
            | none => simp [hst] at hm
            | some m0 =>
              cases hty : P.underlying ty with
              | none => simp [hst, hty] at hm
              | some td =>
                cases td with
                | map kt et =>
                  simp only [hst, hty] at hm
                  cases hgr : s.h.get r with
                  | none => simp [hgr] at hm
                  | some obr =>
                    cases obr with
                    | iter mo c1 =>
                      cases mo with
                      | none => simp [hgr] at hm
                      | some m =>
                        cases hgm0 : s.h.get m0 with
                        | none => simp [hgr, hgm0] at hm
                        | some ob0 =>
                          cases ob0 with
                          | map es0 c0 =>
                            cases hkk : keyKind P kt with
                            | none => simp [hgr, hgm0, hkk] at hm
                            | some kk =>
                              simp only [hgr, hgm0, hkk] at hm
                              cases hgm : s.h.get m with
                              | none => simp [hgm] at hm
                              | some obm =>
                                cases obm with
                                | map es cm =>
                                  simp only [hgm] at hm
                                  cases hcond : Nat.beq c1 cm && !Nat.beq m m0 && Nat.ble s.lo m0 && Nat.ble s.lo r && Nat.blt p.tn nt && Nat.blt p.tok nt && Nat.blt p.te nt with
                                  | false => rw [hcond] at hm; cases hm
                                  | true =>
                                    rw [hcond] at hm; simp only [cond_true] at hm
                                    simp only [Bool.and_eq_true, Nat.beq_eq, Nat.ble_eq, Nat.blt_eq, Bool.not_eq_true'] at hcond
                                    obtain ⟨⟨⟨⟨⟨⟨rfl, hne⟩, hlo0⟩, hlor⟩, htn⟩, htok⟩, hte⟩ := hcond
                                    have hne' : m ≠ m0 := fun e => by rw [e, Nat.beq_refl] at hne; cases hne
                                    cases hrs : rounds P K fn nt g0 p (innerH s.h r m m0) m0 kk es s.nx es0 s.h with
                                    | none => simp [hrs] at hm
                                    | some q =>
                                      obtain ⟨nx, es', hh⟩ := q
                                      simp only [hrs, Option.some.injEq, Prod.mk.injEq] at hm
                                      obtain ⟨rfl, rfl⟩ := hm
                                      -- what is there
                                      have hv1 := ht0 p.it
                                      rw [hit] at hv1
                                      obtain ⟨lr, hir, _⟩ := hv1.ptr_inv
                                      have hv2 := ht0 (srcTmp p.rest mt)
                                      rw [hst] at hv2
                                      obtain ⟨lm0, him0, _⟩ := hv2.map_inv
                                      obtain ⟨obR, r1, r2⟩ := h.srel.obj r lr _ hir hgr
                                      cases r2 with
                                      | iter hbase him =>
                                        rename_i lm
                                        obtain ⟨obM, m1, m2⟩ := h.srel.obj m lm _ him hgm
                                        cases m2 with
                                        | map y1 y2 y3 y4 y5 =>
                                          rename_i srcE lst
                                          obtain ⟨ob0', z1, z2⟩ := h.srel.obj m0 lm0 _ him0 hgm0
                                          cases z2 with
                                          | map x1 x2 x3 x4 x5 =>
                                            rename_i dE dl
                                            obtain ⟨R, q0, q1, q2, q3, q4, q5, q6, q7⟩ := rounds_spec hrs x3
                                            obtain ⟨Z, zf, zs, zr⟩ := zip_rel q1 y2
                                            have hctx : LCtx P K w0 fn nt g0 p ι s w r m m0 lr lm lm0 c1 c0 srcE es0 kk Z nx := by
                                              refine ⟨h.srel, h.lo, h.ini, hir, him, him0, hgr, ⟨es, hgm⟩, hgm0, hbase, hne', r1, m1, y4, y5, fun hZ => q0 (fun e => hZ ?_), zr, by rw [zs]; exact y1, fun z hz => q2 z.1 (by rw [← zf]; exact List.mem_map_of_mem hz), by rw [zf]; exact q3, by rw [zf, ← q4]; exact q5⟩
                                              have : Z.length = 0 := by rw [← List.length_map (f := (·.1)), zf, e]; rfl
                                              exact List.eq_nil_of_length_eq_zero this
                                            have hstart := LI.start hctx ht0 h.size
                                            obtain ⟨Zd', ιd', hd', w', w'', tm, f1, f2, f3, f4⟩ := loop_all (P := P) (kind := kind) (ds' := ds') (cs := cs) (k' := k') hK hmix hctx hP htn htok hte hit h.func Z.length Z [] ι _ w tmps rfl (List.Perm.refl _) hstart
                                            have hm0lt := hctx.lt_nx him0
                                            have hnxle : s.nx ≤ nx := q3.le.1
                                            -- the heap in the end
                                            have hget : ∀ i, ((T.setF (Nat.succ r) hh r none).set m0 (.map es' (c0 + es.length))).get i = if i = m0 then some (.map es' (c0 + es.length)) else if i = r then none else hh.get i := by
                                              intro i; rw [T.get_set, T.get_setF _ _ _ _ _ (Nat.lt_succ_self r)]
                                            generalize (T.setF (Nat.succ r) hh r none).set m0 (.map es' (c0 + es.length)) = hfin at hget ⊢
                                            have hlen : Zd'.length = es.length := by
                                              rw [f1.length_eq, ← q1, List.length_map, ← zf, List.length_map]
                                            have hpermE : (es0 ++ newEs (Zd'.map (·.1))).Perm es' := by
                                              rw [q4, ← zf]
                                              refine List.Perm.append_left _ ?_
                                              unfold newEs
                                              exact (f1.map _).map _
                                            -- the map, put in order
                                            have hιd : Ext ι ιd' := fun i l hl => by rw [f2.low i (hctx.lt_nx hl)]; exact hl
                                            obtain ⟨od, o1, o2⟩ := f2.srel.obj m0 lm0 _ (hιd _ _ him0) f2.getm0
                                            have hod : ORel P ιd' lm0 (.map es' (c0 + es.length)) od := by
                                              rw [hlen] at o2
                                              cases o2 with
                                              | map a1 a2 a3 a4 a5 =>
                                                obtain ⟨l2, b1, b2⟩ := a2.perm hpermE
                                                exact .map (b1.trans a1) b2 ((List.Perm.pairwise_iff (fun {_ _} x => KeyNe.symm x) hpermE).1 a3) a4 a5
                                            have hput : WPut w' w' lm0.blk od := ⟨o1, fun _ _ => rfl, rfl, rfl, rfl, rfl⟩
                                            have hS1 := f2.srel.putO (hιd _ _ him0) f2.getm0 (by intro b; simp) (ob := .map es' (c0 + es.length)) (by intro q; simp [Par]) hput hod
                                            have hS2 : SRel P ιd' ⟨hfin, nx, s.lo⟩ w' := by
                                              refine hS1.congr (fun i hi => ?_) rfl
                                              simp only [S.put_get]
                                              rw [hget]
                                              by_cases e0 : i = m0
                                              · rw [if_pos e0, if_pos e0]
                                              · rw [if_neg e0, if_neg e0]
                                                by_cases er : i = r
                                                · rw [if_pos er, er, f2.getr]
                                                · rw [if_neg er]
                                                  obtain ⟨l, hl⟩ := Option.ne_none_iff_exists'.1 hi
                                                  by_cases hlt : i < s.nx
                                                  · rw [f2.get i hlt er e0, q7 i (.inl hlt)]
                                                  · obtain ⟨_, z, hz, h1, h2⟩ := f2.hi i l (by omega) hl
                                                    rw [f2.own z hz i h1 h2]
                                                    exact q6 z.1 (by rw [← zf]; exact List.mem_map_of_mem (f1.mem_iff.1 hz)) i h1 h2
                                            have hlowget : ∀ i, i < s.nx → i ≠ m0 → i ≠ r → hfin.get i = s.h.get i := by
                                              intro i hi e0 er; rw [hget, if_neg e0, if_neg er, q7 i (.inl hi)]
                                            have hF : Fm hb ι s w ιd' ⟨hfin, nx, s.lo⟩ w' := by
                                              have hownq : ∀ (q b : Nat), b < w.heap.size → (∃ i l o, q ≤ i ∧ ιd' i = some l ∧ l.blk = b ∧ hfin.get i = some o ∧ NotHole o) → ∃ i l o, q ≤ i ∧ ι i = some l ∧ l.blk = b ∧ s.h.get i = some o ∧ NotHole o := by
                                                rintro q b hbb ⟨i, l, o, a0, a1, a2, a3, a4⟩
                                                by_cases hlt : i < s.nx
                                                · rw [f2.low i hlt] at a1
                                                  by_cases e0 : i = m0
                                                  · subst e0; exact ⟨i, l, _, a0, a1, a2, hgm0, trivial⟩
                                                  · by_cases er : i = r
                                                    · rw [hget, if_neg e0, if_pos er] at a3; cases a3
                                                    · rw [hlowget i hlt e0 er] at a3; exact ⟨i, l, o, a0, a1, a2, a3, a4⟩
                                                · have := (f2.hi i l (by omega) a1).1; omega
                                              have hhb := h.hb
                                              refine ⟨hιd, ?_, ?_, f2.heap, ?_, ?_, ?_, ?_, rfl, hnxle, f2.size, f2.os, f2.out, f2.tape⟩
                                              · intro i hi hn
                                                refine ⟨by rw [f2.low i (by omega)]; exact hn, hlowget i (by omega) (fun e => ?_) (fun e => ?_)⟩
                                                · rw [e, him0] at hn; cases hn
                                                · rw [e, hir] at hn; cases hn
                                              · intro i l hn hs
                                                by_cases hlt : i < s.nx
                                                · rw [f2.low i hlt, hn] at hs; cases hs
                                                · exact .inl (f2.hi i l (by omega) hs).1
                                              · rintro b hbb ⟨i, l, o, a1⟩
                                                obtain ⟨i, l, o, _, a⟩ := hownq 0 b hbb ⟨i, l, o, Nat.zero_le _, a1⟩
                                                exact ⟨i, l, o, a⟩
                                              · intro b hbb ho
                                                exact hownq s.lo b hbb ho
                                              · intro i hi hn
                                                by_cases er : i = r
                                                · show hfin.get i = none
                                                  rw [hget, if_neg (by rw [er]; exact hctx.rm0), if_pos er]
                                                · show hfin.get i = none
                                                  rw [hlowget i hi (fun e => by rw [e, hgm0] at hn; cases hn) er]; exact hn
                                              · intro i hi
                                                have := h.lo
                                                exact hlowget i (by omega) (by omega) (by omega)
                                            -- the temporaries
                                            have hT1 : TmpRel ιd' g0 (pt tm (some p.tn) (.tuple #[.bool false])) := by
                                              intro t
                                              by_cases e : t = p.tn
                                              · subst e; rw [hclr]; exact .poi _
                                              · rw [pt_get (by simpa using Ne.symm e)]
                                                exact (f2.trel t).mono hιd
                                            have hT2 : TmpRel ιd' (g0.set p.tok (.bool false)) (pt (pt tm (some p.tn) (.tuple #[.bool false])) (some p.tok) (.bool false)) :=
                                              hT1.putD (nt := nt) (by rw [pt_size]; exact f2.tsz) (dst := some p.tok) (by simpa [dstOk] using htok) (.bool false)
                                            have hFs := hF.trans (Fm.same (hb := hb) f3)
                                            exact next_body h (.head (step_loop (b := bs fn kind) (a := ⟨tmps, ds'⟩)) f4) (by rw [pt_size, pt_size]; exact f2.tsz) (hS2.same f3) hFs (.plain hT2 (hk.mono hιd))
                                | _ => simp [hgm] at hm
                          | _ => simp [hgr, hgm0] at hm
                    | _ => simp [hgr] at hm
                | _ => simp [hst, hty] at hm
          | _ => simp [hst] at hm
  | _ => simp [hit] at hm

theorem stepM_ok (hK : KnownOk P K w0) (hmix : P.follows .mixedOrders = true) {ι : Inj} {hb : Nat} {sf : Suf} {fr : Fr} {rest : List Fr} {s : S} {top : Frame} {cs : List Frame} {w : World} (h : RSt P B w0 ι hb sf fr rest s top cs w) :
    ResPost' P B w0 ι s w (lone top cs w) (stepM P K ⟨fr :: rest, s⟩) := by
  have hdef := step_ok hK hmix h
  unfold stepM
  split
  · rename_i fn nt g c id k ds d r cs0 s0 heq
    simp only [St.mk.injEq, List.cons.injEq] at heq
    obtain ⟨⟨rfl, rfl⟩, rfl⟩ := heq
    cases hp : patOf c id with
    | none => exact hdef
    | some p =>
      simp only []
      cases hm : mapLoop P K fn nt g p s with
      | none => exact hdef
      | some q =>
        obtain ⟨g', s'⟩ := q
        simp only []
        obtain ⟨hcal, hT, hS, hhb, hlo, hini⟩ := h
        have hrn := hT.rnd
        simp only at hrn; subst hrn
        have hmode : top.mode = .run := by
          have := hT.mode
          generalize top.mode = mm at this
          cases this; rfl
        rw [frame_eta top hmode hT.rnd']
        have hR : Run1 P B w0 ι hb sf fn nt g ds d rest s top.kind top.tmps top.defers cs w := ⟨hcal, hT.func, hT.kind, hT.size, hT.defers, hS, hhb, hlo, hini⟩
        have hfn := hT.fn
        have hbody := hT.body rfl
        simp only at hfn hbody
        rw [hfn]
        generalize top.kind = kind at hR ⊢
        generalize top.tmps = tmps at hR hbody ⊢
        generalize top.defers = ds' at hR ⊢
        generalize top.todo = todo' at hbody ⊢
        cases hbody with
        | plain ht hits =>
          cases hits with
          | cons h1 h2 =>
            cases h1
            cases h2 with
            | cons h3 h4 =>
              cases h3
              exact mapLoop_ok hK hmix hR ht hp hm h4
  · exact hdef

theorem runM_ok (hK : KnownOk P K w0) (hmix : P.follows .mixedOrders = true) : ∀ (n : Nat) {ι : Inj} {hb : Nat} {sf : Suf} {fr : Fr} {rest : List Fr} {s : S} {top : Frame} {cs : List Frame} {w : World},
    RSt P B w0 ι hb sf fr rest s top cs w → ResPost' P B w0 ι s w (lone top cs w) (match runM P K n ⟨fr :: rest, s⟩ with | .next _ => .bad 0 | r => r)
  | 0, ι, hb, sf, fr, rest, s, top, cs, w, h => by simp only [runM]; trivial
  | n + 1, ι, hb, sf, fr, rest, s, top, cs, w, h => by
    have hs := stepM_ok hK hmix h
    simp only [runM]
    cases hr : stepM P K ⟨fr :: rest, s⟩ with
    | next st =>
      rw [hr] at hs
      obtain ⟨frs, s1⟩ := st
      obtain ⟨ι1, hb1, sf1, fr1, rest1, top1, cs1, w1, rfl, h1, h2, h3⟩ := hs
      simp only []
      exact .of_steps h1 h3 (runM_ok hK hmix n h2)
    | idle fr s => rw [hr] at hs; exact hs
    | stop fr s => rw [hr] at hs; exact hs
    | upd fr s r k x => rw [hr] at hs; exact hs
    | bad n => trivial

/-- what a run of the abstract machine says of the program -/
theorem answersTrue_sound {f : FuncId} {n : Nat} (hrun : answersTrue P K f n = true) (hmix : P.follows .mixedOrders = true) (w : World) (hK : KnownOk P K w) :
    Calls P f #[] w fun e w' => e = .returned (.bool true) ∧ w.heap.size ≤ w'.heap.size ∧ (∀ b, b < w.heap.size → w'.heap[b]? = w.heap[b]?) ∧ w'.output = w.output ∧ w'.os = w.os ∧ w'.tape = w.tape := by
  unfold answersTrue at hrun
  cases he : enter P f [] false with
  | none => simp [he] at hrun
  | some fr =>
    simp only [he] at hrun
    intro cs
    let B : Base := ⟨⟨[], [], some false, some (f, fr.nt, .normal)⟩, 0, cs⟩
    let ι : Inj := fun _ => none
    have hS : SRel P ι ⟨.leaf, 0, 0⟩ w := ⟨nofun, fun _ _ => rfl, nofun, nofun, fun _ _ _ _ h => absurd rfl h⟩
    have hfn : fr.fn = f := by
      unfold enter at he
      cases hi : finfo P f with
      | none => simp [hi] at he
      | some fi =>
        obtain ⟨nt, c, rs⟩ := fi
        simp only [hi] at he
        cases hle : Nat.ble ([] : List Value).length nt with
        | false => rw [hle] at he; cases he
        | true => rw [hle] at he; simp only [cond_true, Option.some.injEq] at he; subst he; rfl
    have hT0 := enter_ok (args' := #[]) he (ι := ι) .nil ⟨.leaf, 0, 0⟩ 0
    have hT1 : Top P ι ⟨.leaf, 0, 0⟩ B.sf 0 fr (Frame.enter P f #[] .normal) :=
      ⟨hT0.fn, hT0.func, hT0.rnd, hT0.rnd', ⟨hT0.kind.1, fun q hq => by cases hq; exact ⟨hfn, rfl, rfl⟩⟩, hT0.size, hT0.defers, hT0.mode, hT0.body, hT0.tmps⟩
    have hR : RSt P B w ι 0 B.sf fr [] ⟨.leaf, 0, 0⟩ (Frame.enter P f #[] .normal) cs w :=
      ⟨.base, hT1, hS, Nat.le_refl _, Nat.le_refl _, ⟨Nat.le_refl _, fun _ _ => rfl, fun b _ ⟨i, l, o, a, _⟩ => (by cases a), rfl, rfl, rfl⟩⟩
    have hrm := runM_ok hK hmix n hR
    cases hr : runM P K n ⟨[fr], ⟨.leaf, 0, 0⟩⟩ with
    | stop fr1 s1 =>
      rw [hr] at hrm hrun
      obtain ⟨ι1, top, w1, hd0, hm0, hst, hR1, hF⟩ := hrm
      obtain ⟨fn1, nt1, g1, td1, dd1, m1, d1, rn1⟩ := fr1
      simp only at hd0 hm0; subst hd0
      cases m1 with
      | run => exact absurd rfl hm0
      | pan ch => simp at hrun
      | returning =>
        simp only [] at hrun
        cases hv : resV P fn1 g1 s1 with
        | none => simp [hv] at hrun
        | some v =>
          simp only [hv] at hrun
          cases v with
          | bool b =>
            simp only [] at hrun; subst hrun
            have hT := hR1.top
            obtain ⟨ff, v', q1, q2, q3⟩ := resV_ok hR1.srel (hT.tmps (by simp)) hv
            have := q2.bool_inv; subst this
            have hmode : top.mode = .returning := by
              have := hT.mode
              generalize top.mode = mm at this
              cases this; rfl
            have hdd : top.defers = [] := by
              have := hT.defers
              generalize top.defers = td at this
              cases this; rfl
            have hkd : top.kind = .normal := (hT.kind.1 false rfl).2
            refine ⟨.returned (.bool true), w1, top, ⟨rfl, hF.size, fun b hb => hR1.ini.same b hb, hF.out, hF.os, hF.tape⟩, hst, by rw [hT.fn]; exact (hT.kind.2 _ rfl).1, hmode, hdd, hkd, ff, by rw [hT.fn]; exact q1, q3⟩
          | _ => simp at hrun
    | _ => rw [hr] at hrun; simp at hrun

end Go.AM
