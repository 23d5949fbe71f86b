/- Regions that draw: the two machines side by side. -/
import Derived.Test.YteoodndfkdfnaaaGreatDoorAmPlan
namespace Go.AM
variable {P : Program}

def DV (g : T Value) (dst : Option Tmp) (v : Value) : Prop := ∀ d, dst = some d → ev g (.tmp d) = v

theorem sameL_eq {f : Nat} (ih : ∀ x y, sameV f x y = true → x = y) : ∀ {l l' : List Value}, sameV.sameL f l l' = true → l = l'
  | [], [], _ => rfl
  | x :: l, y :: l', h => by
    simp only [sameV.sameL, Bool.and_eq_true] at h
    rw [ih x y h.1, sameL_eq ih h.2]
  | [], _ :: _, h => by simp [sameV.sameL] at h
  | _ :: _, [], h => by simp [sameV.sameL] at h
theorem bytesEq_eq' : ∀ {a b : List UInt8}, bytesEq a b = true → a = b
  | [], [], _ => rfl
  | x :: a, y :: b, h => by
    simp only [bytesEq] at h
    cases hb : Nat.beq x.toNat y.toNat with
    | false => rw [hb] at h; cases h
    | true =>
      rw [hb] at h
      have e : x.toNat = y.toNat := Nat.eq_of_beq_eq_true hb
      rw [UInt8.toNat_inj.1 e, bytesEq_eq' h]
  | [], _ :: _, h => by simp [bytesEq] at h
  | _ :: _, [], h => by simp [bytesEq] at h
theorem sameV_eq : ∀ (f : Nat) (x y : Value), sameV f x y = true → x = y
  | 0, x, y, h => by simp [sameV] at h
  | f + 1, x, y, h => by
    have ihL := @sameL_eq f (sameV_eq f)
    unfold sameV at h
    split at h
    · simp at h; rw [h]
    · simp only [Bool.and_eq_true, kindEq, decide_eq_true_eq] at h; rw [h.1, h.2]
    · have := bytesEq_eq' h
      congr 1
      exact ByteArray.ext (Array.toList_inj.1 this)
    · rfl
    · simp at h; rw [h]
    · simp at h; rw [h.1, h.2]
    · simp at h; rw [h.1.1, h.1.2, h.2]
    · rfl
    · simp at h; rw [h]
    · rfl
    · rfl
    · simp only [Bool.and_eq_true, Nat.beq_eq] at h
      rw [h.1.1, Array.toList_inj.1 (ihL h.1.2), Array.toList_inj.1 (ihL h.2)]
    · simp only [Bool.and_eq_true, Nat.beq_eq] at h
      rw [h.1, sameV_eq f _ _ h.2]
    · rw [Array.toList_inj.1 (ihL h)]
    · rw [Array.toList_inj.1 (ihL h)]
    · cases h
theorem sameD_eq {g : T Value} {dst : Option Tmp} {v : Value} (h : sameD g dst v = true) : DV g dst v := by
  intro d hd
  subst hd
  exact (sameV_eq _ _ _ h).symm

section
variable (P : Program) (nt : Nat) (all : Array Oper) (bs H : List Nat)

def lof (i : Nat) : Nat := loOf (bs.getD i 0) H
def soft (i : Nat) : Bool := match all[i]? with | some o => !isHd (mkCl P nt all o).r | none => false
/-- what the abstract machine has done -/
def dnf (p j i : Nat) : Bool := soft P nt all i && (decide (lof bs H i < p) || (decide (lof bs H i = p) && decide (i < j)))

def OpF (ι : Inj) (g : T Value) (tmps : Array Value) (E dn : Nat → Bool) (i : Nat) (gi : T Value) (t : Tmp) : Prop :=
  (∃ w o, all[w]? = some o ∧ o.dst = some t ∧ Bf bs i w = true ∧ E w = false ∧ dn w = true ∧ ev gi (.tmp t) = ev g (.tmp t)) ∨
  (VRel ι (ev gi (.tmp t)) (tmps.getD t undef) ∧ ∀ w o, all[w]? = some o → o.dst = some t → E w = true ∨ Bf bs w i = true)

/-- an operation that the abstract machine has done, the model not -/
def Pend (hb : Nat) (ι : Inj) (s : S) (g : T Value) (tmps : Array Value) (E dn : Nat → Bool) (a : Nat → Option Nat) (i : Nat) (o : Oper) : Prop :=
  ∃ gd, mkCl P nt all o = ⟨cr P o.op, o.dst, gd⟩ ∧ mkGd all o.guard = some gd ∧ dstOk nt o.dst = true ∧ gdOk nt gd = true ∧
    match cr P o.op with
    | .hd _ => False
    | .rd _ => True
    | .pu f => ∃ gi b, gdT gd gi = some b ∧ (b = false → DV g o.dst und) ∧ (b = true → ∃ v, f gi = some v ∧ DV g o.dst v) ∧ ∀ t ∈ reads o all, OpF all bs ι g tmps E dn i gi t
    | .al f => ∃ gi b, gdT gd gi = some b ∧ (b = false → DV g o.dst und) ∧
        (b = true → ∃ ob mk id, f gi = some (ob, mk) ∧ DV g o.dst (mk id) ∧ a i = some id ∧ hb ≤ id ∧ ι id = none ∧ s.h.get id = some ob) ∧ ∀ t ∈ reads o all, OpF all bs ι g tmps E dn i gi t

structure Dr (hb : Nat) (ι : Inj) (s : S) (g : T Value) (tmps : Array Value) (E dn : Nat → Bool) (p : Nat) (a : Nat → Option Nat) : Prop where
  ple : p ≤ H.length
  size : tmps.size = nt
  clo : ∀ i j, E i = true → Bf bs i j = true → E j = true
  hrd : ∀ k i, H[k]? = some i → (E i = true ↔ k < p)
  edn : ∀ i, soft P nt all i = true → E i = true → dn i = true
  ein : ∀ i, E i = true → i < all.size
  tmp : ∀ t, (∀ i o, all[i]? = some o → o.dst = some t → dn i = true → E i = true) → VRel ι (ev g (.tmp t)) (tmps.getD t undef)
  pend : ∀ i o, all[i]? = some o → dn i = true → E i = false → Pend P nt all bs hb ι s g tmps E dn a i o
  alt : ∀ i id, a i = some id → id < s.nx
  inj : ∀ i j id, a i = some id → a j = some id → i = j

/-- what is read stands -/
def RdF (g : T Value) (s : S) (p : Nat) : Prop := ∀ i o f gd, all[i]? = some o → mkCl P nt all o = ⟨.rd f, o.dst, gd⟩ → lof bs H i ≤ p → p ≤ hiOf bs i H →
  ∃ b, gdT gd g = some b ∧ (b = false → DV g o.dst und) ∧ (b = true → ∃ v, f g s = some v ∧ DV g o.dst v)
end

variable {nt : Nat} {all : Array Oper} {bs H : List Nat} {hb : Nat} {ι : Inj} {s : S} {g : T Value} {tmps : Array Value} {E dn : Nat → Bool} {p : Nat} {a : Nat → Option Nat} {w : World}

theorem dnf_soft {p j i : Nat} (h : dnf P nt all bs H p j i = true) : soft P nt all i = true := by
  simp only [dnf, Bool.and_eq_true] at h; exact h.1
theorem soft_some {i : Nat} (h : soft P nt all i = true) : ∃ o, all[i]? = some o ∧ isHd (mkCl P nt all o).r = false := by
  unfold soft at h
  cases ho : all[i]? with
  | none => simp [ho] at h
  | some o => simp [ho] at h; exact ⟨o, rfl, h⟩
theorem lof_le (hp : PF P nt all bs H) {i j : Nat} (h : Bf bs i j = true) : lof bs H j ≤ lof bs H i := by
  rcases Nat.lt_or_ge (lof bs H i) (lof bs H j) with x | x
  · exfalso
    have hlt : lof bs H i < H.length := Nat.lt_of_lt_of_le x (PF.loOf_le _ _)
    have e : H[lof bs H i]? = some H[lof bs H i] := List.getElem?_eq_getElem hlt
    have h1 := (hp.loOf_spec (i := j) e).1 x
    have h2 := (hp.loOf_spec (i := i) e).2 (hp.tr h h1)
    exact absurd h2 (Nat.lt_irrefl _)
  · exact x

theorem ev_putD_ne {g : T Value} {dst : Option Tmp} {v : Value} {t : Tmp} (h : dst ≠ some t) : ev (putD g dst v) (.tmp t) = ev g (.tmp t) := by
  cases dst with
  | none => rfl
  | some d => simp only [putD]; rw [ev_set, if_neg (fun e => h (by rw [e]))]
theorem ev_putD_eq {g : T Value} {dst : Option Tmp} {v : Value} : DV (putD g dst v) dst v := by
  intro d hd; subst hd
  simp only [putD]; rw [ev_set, if_pos rfl]

theorem reads_opd {o : Oper} {t : Tmp} (h : Operand.tmp t ∈ o.op.operands.toList) : t ∈ reads o all := by
  unfold reads
  refine List.mem_append.2 (.inl ?_)
  rw [List.mem_filterMap]
  exact ⟨_, h, rfl⟩
theorem reads_gd {o : Oper} {d : Tmp} {b : Bool} (h : mkGd all o.guard = some (.on d b)) : d ∈ reads o all := by
  unfold reads
  refine List.mem_append.2 (.inr ?_)
  unfold mkGd at h
  cases hg : o.guard with
  | none => simp [hg] at h
  | some jw =>
    obtain ⟨j, w⟩ := jw
    simp only [hg] at h ⊢
    cases hj : all[j]? with
    | none => simp [hj] at h
    | some oj =>
      simp only [hj] at h ⊢
      cases hd : oj.dst with
      | none => simp [hd] at h
      | some d' => simp [hd] at h; simp [h.1]

/-- the abstract machine does one more -/
theorem Dr.exec (hp : PF P nt all bs H) {j : Nat} (h : Dr P nt all bs H hb ι s g tmps E (dnf P nt all bs H p j) p a) {o : Oper} (ho : all[j]? = some o) (hs : soft P nt all j = true) (hlo : lof bs H j = p)
    {v : Value} {s' : S} {a' : Nat → Option Nat} (hnx : s.nx ≤ s'.nx) (hget : ∀ id, id < s.nx → s'.h.get id = s.h.get id)
    (ha : ∀ i, i ≠ j → a' i = a i) (haj : a' j = a j ∨ (a' j = some s.nx ∧ s.nx < s'.nx))
    (hpd : (∀ t ∈ reads o all, OpF all bs ι (putD g o.dst v) tmps E (dnf P nt all bs H p (j + 1)) j g t) → Pend P nt all bs hb ι s' (putD g o.dst v) tmps E (dnf P nt all bs H p (j + 1)) a' j o) :
    Dr P nt all bs H hb ι s' (putD g o.dst v) tmps E (dnf P nt all bs H p (j + 1)) p a' := by
  have hEj : E j = false := by
    cases hE : E j with
    | false => rfl
    | true => have := h.edn j hs hE; simp [dnf, hs, hlo] at this
  have hjn : dnf P nt all bs H p (j + 1) j = true := by simp [dnf, hs, hlo]
  have hmono : ∀ i, dnf P nt all bs H p j i = true → dnf P nt all bs H p (j + 1) i = true := by
    intro i hi
    simp only [dnf, Bool.and_eq_true, Bool.or_eq_true, decide_eq_true_eq] at hi ⊢
    exact ⟨hi.1, hi.2.imp id fun x => ⟨x.1, by omega⟩⟩
  have hback : ∀ i, i ≠ j → dnf P nt all bs H p (j + 1) i = true → dnf P nt all bs H p j i = true := by
    intro i hne hi
    simp only [dnf, Bool.and_eq_true, Bool.or_eq_true, decide_eq_true_eq] at hi ⊢
    exact ⟨hi.1, hi.2.imp id fun x => ⟨x.1, by omega⟩⟩
  have hdn_ne : ∀ i, dnf P nt all bs H p j i = true → i ≠ j := by
    intro i hi e; subst e
    simp [dnf, hlo] at hi
  have hopf : ∀ i gi t, i ≠ j → OpF all bs ι g tmps E (dnf P nt all bs H p j) i gi t → OpF all bs ι (putD g o.dst v) tmps E (dnf P nt all bs H p (j + 1)) i gi t := by
    intro i gi t _ hf
    rcases hf with ⟨w, ow, x1, x2, x3, x4, x5, x6⟩ | x
    · refine .inl ⟨w, ow, x1, x2, x3, x4, hmono w x5, ?_⟩
      rw [x6, ev_putD_ne]
      intro e
      exact hdn_ne w x5 (hp.dist w j ow o t x1 ho x2 e)
    · exact .inr x
  have hreads : ∀ t ∈ reads o all, OpF all bs ι (putD g o.dst v) tmps E (dnf P nt all bs H p (j + 1)) j g t := by
    intro t ht
    by_cases hw : ∃ (w : Nat) (ow : Oper), all[w]? = some ow ∧ ow.dst = some t
    · obtain ⟨w, ow, hw1, hw2⟩ := hw
      have huni : ∀ w' o', all[w']? = some o' → o'.dst = some t → w' = w := fun w' o' x y => hp.dist w' w o' ow t x hw1 y hw2
      rcases hp.rds j o t ho ht w ow hw1 hw2 with hb1 | ⟨_, hb1⟩
      · -- it comes before
        have hne : w ≠ j := fun e => by have := hp.lt hb1; omega
        cases hEw : E w with
        | true =>
          refine .inr ⟨h.tmp t ?_, fun w' o' x y => .inl (by rw [huni w' o' x y]; exact hEw)⟩
          intro i o' x y _
          rw [huni i o' x y]; exact hEw
        | false =>
          -- a soft one: it is done
          have hsw : soft P nt all w = true := by
            cases hh : isHd (mkCl P nt all ow).r with
            | false => simp [soft, hw1, hh]
            | true =>
              exfalso
              have hm := hp.hard w ow hw1 hh
              obtain ⟨k, hk, hk2⟩ := List.getElem_of_mem hm
              have e : H[k]? = some w := by rw [List.getElem?_eq_getElem hk, hk2]
              have h1 := (hp.loOf_spec (i := j) e).2 hb1
              have h2 := (h.hrd k w e).2 (by have : loOf (bs.getD j 0) H = p := hlo; omega)
              rw [hEw] at h2; cases h2
          have hlw := lof_le hp hb1
          have hlt := hp.lt hb1
          refine .inl ⟨w, ow, hw1, hw2, hb1, hEw, ?_, ?_⟩
          · simp only [dnf, hsw, Bool.true_and, Bool.or_eq_true, Bool.and_eq_true, decide_eq_true_eq]
            omega
          · rw [ev_putD_ne]
            intro e
            exact hne (hp.dist w j ow o t hw1 ho hw2 e)
      · -- it comes behind
        have hlt := hp.lt hb1
        have hlw := lof_le hp hb1
        refine .inr ⟨h.tmp t ?_, fun w' o' x y => .inr (by rw [huni w' o' x y]; exact hb1)⟩
        intro i o' x y hdn
        rw [huni i o' x y] at hdn
        simp only [dnf, Bool.and_eq_true, Bool.or_eq_true, decide_eq_true_eq] at hdn
        omega
    · refine .inr ⟨h.tmp t ?_, fun w' o' x y => absurd ⟨w', o', x, y⟩ hw⟩
      intro i o' x y _
      exact absurd ⟨i, o', x, y⟩ hw
  refine ⟨h.ple, h.size, h.clo, h.hrd, fun i x y => hmono i (h.edn i x y), h.ein, ?_, ?_, ?_, ?_⟩
  · intro t ht
    have hne : o.dst ≠ some t := fun e => by
      have := ht j o ho e hjn
      rw [hEj] at this; cases this
    rw [ev_putD_ne hne]
    exact h.tmp t fun i o' x y z => ht i o' x y (hmono i z)
  · intro i o' hi hdn hE
    by_cases e : i = j
    · subst e; rw [ho] at hi; cases hi
      exact hpd hreads
    · have hdn' := hback i e hdn
      obtain ⟨gd, q1, q2, q3, q4, q5⟩ := h.pend i o' hi hdn' hE
      have hdd : ∀ x, DV g o'.dst x → DV (putD g o.dst v) o'.dst x := by
        intro x hx d hd
        rw [ev_putD_ne (fun e' => e (hp.dist i j o' o d hi ho hd e')), hx d hd]
      refine ⟨gd, q1, q2, q3, q4, ?_⟩
      cases hcr : cr P o'.op with
      | hd f => rw [hcr] at q5; exact q5
      | rd f => trivial
      | pu f =>
        rw [hcr] at q5
        obtain ⟨gi, b, r1, r2, r3, r4⟩ := q5
        exact ⟨gi, b, r1, fun x => hdd _ (r2 x), fun x => let ⟨u, y, z⟩ := r3 x; ⟨u, y, hdd _ z⟩, fun t ht => hopf i gi t e (r4 t ht)⟩
      | al f =>
        rw [hcr] at q5
        obtain ⟨gi, b, r1, r2, r3, r4⟩ := q5
        refine ⟨gi, b, r1, fun x => hdd _ (r2 x), fun x => ?_, fun t ht => hopf i gi t e (r4 t ht)⟩
        obtain ⟨ob, mk, id, y1, y2, y3, y4, y5, y6⟩ := r3 x
        exact ⟨ob, mk, id, y1, hdd _ y2, by rw [ha i e]; exact y3, y4, y5, by rw [hget id (h.alt i id y3)]; exact y6⟩
  · intro i id hi
    by_cases e : i = j
    · subst e
      rcases haj with x | ⟨x, y⟩
      · rw [x] at hi; have := h.alt i id hi; omega
      · rw [x] at hi; cases hi; exact y
    · rw [ha i e] at hi; have := h.alt i id hi; omega
  · intro i k id hi hk
    by_cases e1 : i = j
    · by_cases e2 : k = j
      · rw [e1, e2]
      · subst e1
        rw [ha k e2] at hk
        rcases haj with x | ⟨x, y⟩
        · rw [x] at hi; exact h.inj i k id hi hk
        · rw [x] at hi; cases hi; have := h.alt k _ hk; omega
    · rw [ha i e1] at hi
      by_cases e2 : k = j
      · subst e2
        rcases haj with x | ⟨x, y⟩
        · rw [x] at hk; exact h.inj i k id hi hk
        · rw [x] at hk; cases hk; have := h.alt i _ hi; omega
      · rw [ha k e2] at hk; exact h.inj i k id hi hk

/-- a phase of the abstract machine -/
theorem ph1_ok (hp : PF P nt all bs H) : ∀ (n j : Nat), j + n = all.size → ∀ (g : T Value) (s : S) (a : Nat → Option Nat), Dr P nt all bs H hb ι s g tmps E (dnf P nt all bs H p j) p a → SRel P ι s w → hb ≤ s.nx → s.lo ≤ s.nx →
    ∀ g' s', ph1 p (dopsFrom P nt all bs H j) g s = some (g', s') →
      ∃ a', Dr P nt all bs H hb ι s' g' tmps E (dnf P nt all bs H p all.size) p a' ∧ SRel P ι s' w ∧ ∀ hb', hb' ≤ s.nx → Fm hb' ι s w ι s' w
  | 0, j, hj, g, s, a, h, hS, _, _, g', s', hph => by
    rw [dopsFrom_nil (by omega)] at hph
    simp only [ph1, Option.some.injEq, Prod.mk.injEq] at hph
    obtain ⟨rfl, rfl⟩ := hph
    have : j = all.size := by omega
    subst this
    exact ⟨a, h, hS, fun hb' _ => Fm.refl _ _ _ _⟩
  | n + 1, j, hj, g, s, a, h, hS, hhb, hlo, g', s', hph => by
    have ho : all[j]? = some (all[j]'(by omega)) := Array.getElem?_eq_getElem (by omega)
    generalize all[j]'(by omega) = o at ho
    rw [dopsFrom_cons ho] at hph
    have hsk : ∀ {x : Bool}, (!isHd (mkCl P nt all o).r && Nat.beq (loOf (bs.getD j 0) H) p) = x → x = false → dnf P nt all bs H p j = dnf P nt all bs H p (j + 1) := by
      rintro x hx rfl
      funext i
      have : soft P nt all j = !isHd (mkCl P nt all o).r := by simp [soft, ho]
      simp only [dnf]
      by_cases e : i = j
      · subst e
        rw [this]
        cases hh : isHd (mkCl P nt all o).r with
        | true => simp
        | false =>
          rw [hh] at hx
          simp only [Bool.not_false, Bool.true_and] at hx
          have : lof bs H i ≠ p := fun e => by
            have h2 : loOf (bs.getD i 0) H = p := e
            rw [h2, Nat.beq_refl] at hx; cases hx
          simp [this]
      · have : decide (i < j) = decide (i < j + 1) := by
          have : i < j ↔ i < j + 1 := by omega
          simp [this]
        rw [this]
    rcases mkCl_cases (P := P) nt all o with hc | ⟨gd, hc, hm, hd, hgk⟩
    · cases hcond : (!isHd (mkCl P nt all o).r && Nat.beq (loOf (bs.getD j 0) H) p) with
      | false =>
        have hph' : ph1 p (dopsFrom P nt all bs H (j + 1)) g s = some (g', s') := by
          rw [hc] at hph hcond
          simp only [ph1] at hph
          rw [hcond] at hph; exact hph
        have := hsk hcond rfl
        rw [this] at h
        exact ph1_ok hp n (j + 1) (by omega) g s a h hS hhb hlo g' s' hph'
      | true =>
        rw [hc] at hph hcond
        simp only [ph1] at hph
        rw [hcond] at hph
        simp [gdT, rdNo] at hph
    · cases hcond : (!isHd (mkCl P nt all o).r && Nat.beq (loOf (bs.getD j 0) H) p) with
      | false =>
        have hph' : ph1 p (dopsFrom P nt all bs H (j + 1)) g s = some (g', s') := by
          rw [hc] at hph hcond
          simp only [ph1] at hph
          rw [hcond] at hph; exact hph
        have := hsk hcond rfl
        rw [this] at h
        exact ph1_ok hp n (j + 1) (by omega) g s a h hS hhb hlo g' s' hph'
      | true =>
        have hsj : soft P nt all j = true := by
          simp only [Bool.and_eq_true] at hcond
          simp only [soft, ho]; exact hcond.1
        have hlj : lof bs H j = p := by
          simp only [Bool.and_eq_true, Nat.beq_eq] at hcond
          exact hcond.2
        rw [hc] at hph hcond
        simp only [ph1] at hph
        rw [hcond] at hph
        simp only [cond_true] at hph
        have hfr : ι s.nx = none := hS.fresh _ (Nat.le_refl _)
        cases hgt : gdT gd g with
        | none => simp [hgt] at hph
        | some b =>
          cases b with
          | false =>
            simp only [hgt] at hph
            refine ph1_ok hp n (j + 1) (by omega) _ s a ?_ hS hhb hlo g' s' hph
            refine h.exec hp ho hsj hlj (Nat.le_refl _) (fun _ _ => rfl) (fun _ _ => rfl) (.inl rfl) fun hr => ⟨gd, hc, hm, hd, hgk, ?_⟩
            cases hcr : cr P o.op with
            | hd f => rw [hcr] at hcond; simp [isHd] at hcond
            | rd f => trivial
            | pu f => exact ⟨g, false, hgt, fun _ => ev_putD_eq, nofun, hr⟩
            | al f => exact ⟨g, false, hgt, fun _ => ev_putD_eq, nofun, hr⟩
          | true =>
            simp only [hgt] at hph
            cases hcr : cr P o.op with
            | hd f => rw [hcr] at hcond; simp [isHd] at hcond
            | rd f =>
              simp only [hcr] at hph
              cases hf : f g s with
              | none => simp [hf] at hph
              | some v =>
                simp only [hf] at hph
                refine ph1_ok hp n (j + 1) (by omega) _ s a ?_ hS hhb hlo g' s' hph
                exact h.exec hp ho hsj hlj (Nat.le_refl _) (fun _ _ => rfl) (fun _ _ => rfl) (.inl rfl) fun hr => ⟨gd, hc, hm, hd, hgk, by rw [hcr]; trivial⟩
            | pu f =>
              simp only [hcr] at hph
              cases hf : f g with
              | none => simp [hf] at hph
              | some v =>
                simp only [hf] at hph
                refine ph1_ok hp n (j + 1) (by omega) _ s a ?_ hS hhb hlo g' s' hph
                exact h.exec hp ho hsj hlj (Nat.le_refl _) (fun _ _ => rfl) (fun _ _ => rfl) (.inl rfl) fun hr => ⟨gd, hc, hm, hd, hgk, by
                  rw [hcr]; exact ⟨g, true, hgt, nofun, fun _ => ⟨v, hf, ev_putD_eq⟩, hr⟩⟩
            | al f =>
              simp only [hcr] at hph
              cases hf : f g with
              | none => simp [hf] at hph
              | some om =>
                obtain ⟨ob, mk⟩ := om
                simp only [hf] at hph
                have hD : Dr P nt all bs H hb ι (s.push ob) (putD g o.dst (mk s.nx)) tmps E (dnf P nt all bs H p (j + 1)) p (fun i => if i = j then some s.nx else a i) := by
                  refine h.exec hp ho hsj hlj (by rw [S.push_nx]; omega) (fun id hid => by rw [S.push_get, if_neg (by omega)]) (fun i hi => by simp [hi]) (.inr ⟨by simp, by rw [S.push_nx]; omega⟩) fun hr => ⟨gd, hc, hm, hd, hgk, ?_⟩
                  rw [hcr]
                  exact ⟨g, true, hgt, nofun, fun _ => ⟨ob, mk, s.nx, hf, ev_putD_eq, by simp, hhb, hfr, by rw [S.push_get, if_pos rfl]⟩, hr⟩
                obtain ⟨a', r1, r2, r3⟩ := ph1_ok hp n (j + 1) (by omega) _ _ _ hD (hS.prepush ob) (by rw [S.push_nx]; omega) (by rw [S.push_nx, S.push_lo]; omega) g' s' hph
                exact ⟨a', r1, r2, fun hb' hle => (Fm.prepush hS hle hlo ob).trans (r3 hb' (by rw [S.push_nx]; omega))⟩

theorem ph2_ok {g : T Value} {s : S} : ∀ (n j : Nat), j + n = all.size → ph2 p (dopsFrom P nt all bs H j) g s = true →
    ∀ i o f gd, j ≤ i → all[i]? = some o → mkCl P nt all o = ⟨.rd f, o.dst, gd⟩ → lof bs H i ≤ p → p ≤ hiOf bs i H →
      ∃ b, gdT gd g = some b ∧ (b = false → DV g o.dst und) ∧ (b = true → ∃ v, f g s = some v ∧ DV g o.dst v)
  | 0, j, hj, _, i, o, f, gd, hji, ho, _, _, _ => by rw [Array.getElem?_eq_none (by omega)] at ho; cases ho
  | n + 1, j, hj, hph, i, o, f, gd, hji, ho, hcl, hl, hh => by
    have ho' : all[j]? = some (all[j]'(by omega)) := Array.getElem?_eq_getElem (by omega)
    generalize all[j]'(by omega) = o1 at ho'
    rw [dopsFrom_cons ho'] at hph
    by_cases e : i = j
    · subst e
      rw [ho] at ho'; cases ho'
      rw [hcl] at hph
      simp only [ph2, Bool.and_eq_true] at hph
      obtain ⟨hph, _⟩ := hph
      have h1 : (Nat.ble (loOf (bs.getD i 0) H) p && Nat.ble p (hiOf bs i H)) = true := by
        simp only [Bool.and_eq_true, Nat.ble_eq]; exact ⟨hl, hh⟩
      rw [h1] at hph
      simp only [cond_true] at hph
      cases hgt : gdT gd g with
      | none => simp [hgt] at hph
      | some b =>
        cases b with
        | false => simp only [hgt] at hph; exact ⟨false, rfl, fun _ => sameD_eq hph, nofun⟩
        | true =>
          simp only [hgt] at hph
          cases hf : f g s with
          | none => simp [hf] at hph
          | some v => simp only [hf] at hph; exact ⟨true, rfl, nofun, fun _ => ⟨v, rfl, sameD_eq hph⟩⟩
    · refine ph2_ok n (j + 1) (by omega) ?_ i o f gd (by omega) ho hcl hl hh
      generalize mkCl P nt all o1 = c1 at hph
      obtain ⟨r, d, gg⟩ := c1
      simp only [ph2, Bool.and_eq_true] at hph
      exact hph.2

end Go.AM
