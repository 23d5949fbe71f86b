/- The abstract machine, part 3: an interpreter that is proved sound against the model for every tape. No conditions of its own: each theorem bears its own. -/
import Derived.Test.YtbiadddjhdgddaaGreatMb
import Derived.Orders
import Derived.Defers
import Derived.Recover
set_option linter.unusedSimpArgs false
set_option linter.unusedVariables false
/- What a region's plan says of its order. -/
namespace Go.AM
noncomputable section
variable {P : Program}

def Bf (bs : List Nat) (i j : Nat) : Bool := Nat.testBit (bs.getD i 0) j

theorem testBit_two_pow' (a j : Nat) : Nat.testBit (2 ^ a) j = decide (a = j) := Nat.testBit_two_pow ..

theorem befOf_spec {acc : List Nat} {j : Nat} : ∀ (es : List Edge) (m : Nat), Nat.testBit (befOf acc es m) j = true ↔
    (Nat.testBit m j = true ∨ ∃ e ∈ es, Region.binds .any e = true ∧ (j = e.on ∨ Bf acc e.on j = true))
  | [], m => by simp [befOf]
  | e :: es, m => by
    simp only [befOf]
    rw [befOf_spec es]
    cases hb : Region.binds .any e with
    | false => simp [hb]
    | true =>
      simp only [cond_true, List.mem_cons, exists_eq_or_imp, hb, true_and]
      have : ∀ a b, Nat.lor a b = a ||| b := fun _ _ => rfl
      rw [this, this, Nat.testBit_or, Nat.testBit_or, testBit_two_pow']
      simp only [Bool.or_eq_true, decide_eq_true_eq, Bf]
      constructor
      · rintro ((( h | h) | h) | h)
        · exact .inl h
        · exact .inr (.inl (.inl h.symm))
        · exact .inr (.inl (.inr h))
        · exact .inr (.inr h)
      · rintro (h | (h | h) | h)
        · exact .inl (.inl (.inl h))
        · exact .inl (.inl (.inr h.symm))
        · exact .inl (.inr h)
        · exact .inr h

theorem edgesOk_spec {i : Nat} : ∀ {es : List Edge}, edgesOk i es = true → ∀ e ∈ es, Region.binds .any e = true → e.on < i
  | [], _, e, he, _ => by simp at he
  | a :: es, h, e, he, hb => by
    simp only [edgesOk, Bool.and_eq_true, Bool.or_eq_true, Bool.not_eq_true', Nat.blt_eq] at h
    rcases List.mem_cons.1 he with rfl | he
    · rcases h.1 with x | x
      · rw [x] at hb; cases hb
      · exact x
    · exact edgesOk_spec h.2 e he hb

/-- the before-sets, as they come -/
theorem befs_spec : ∀ {ops : List Oper} {acc res : List Nat} {i : Nat}, befs ops i acc = some res → acc.length = i →
    (∀ k, k < i → res.getD k 0 = acc.getD k 0) ∧
    ∀ k o, ops[k]? = some o → (∀ e ∈ o.after.toList, Region.binds .any e = true → e.on < i + k) ∧
      ∀ j, Bf res (i + k) j = true ↔ ∃ e ∈ o.after.toList, Region.binds .any e = true ∧ (j = e.on ∨ Bf res e.on j = true)
  | [], acc, res, i, h, hl => by
    simp only [befs, Option.some.injEq] at h; subst h
    exact ⟨fun _ _ => rfl, fun k o hk => by simp at hk⟩
  | o :: ops, acc, res, i, h, hl => by
    simp only [befs] at h
    cases he : edgesOk i o.after.toList with
    | false => rw [he] at h; cases h
    | true =>
      rw [he] at h; simp only [cond_true] at h
      obtain ⟨h1, h2⟩ := befs_spec h (by simp [hl])
      have hlow : ∀ k, k < i → res.getD k 0 = acc.getD k 0 := fun k hk => by
        rw [h1 k (by omega)]
        simp [List.getD, List.getElem?_append_left (by omega : k < acc.length)]
      have hi : res.getD i 0 = befOf acc o.after.toList 0 := by
        rw [h1 i (by omega)]
        simp [List.getD, ← hl]
      refine ⟨hlow, fun k o' hk => ?_⟩
      cases k with
      | zero =>
        simp only [List.getElem?_cons_zero, Option.some.injEq] at hk; subst hk
        refine ⟨fun e hm hb => edgesOk_spec he e hm hb, fun j => ?_⟩
        simp only [Nat.add_zero, Bf, hi]
        rw [befOf_spec]
        simp only [Nat.zero_testBit, Bool.false_eq_true, false_or]
        constructor
        · rintro ⟨e, a, b, c⟩
          refine ⟨e, a, b, c.imp id fun x => ?_⟩
          rw [hlow _ (edgesOk_spec he e a b)]; exact x
        · rintro ⟨e, a, b, c⟩
          refine ⟨e, a, b, c.imp id fun x => ?_⟩
          rw [hlow _ (edgesOk_spec he e a b)] at x; exact x
      | succ k =>
        have := h2 k o' (by simpa using hk)
        rw [show i + (k + 1) = Nat.succ i + k by omega]
        exact this

theorem distinctD_spec : ∀ {ops : List Oper} {ds : List Tmp}, distinctD ops ds = true →
    (∀ (i : Nat) (o : Oper) (d : Tmp), ops[i]? = some o → o.dst = some d → d ∉ ds) ∧ ∀ (i j : Nat) (o o' : Oper) (d : Tmp), ops[i]? = some o → ops[j]? = some o' → o.dst = some d → o'.dst = some d → i = j
  | [], ds, _ => ⟨fun i o d h => by simp at h, fun i j o o' d h => by simp at h⟩
  | o :: ops, ds, h => by
    simp only [distinctD] at h
    cases hd : o.dst with
    | none =>
      rw [hd] at h
      obtain ⟨h1, h2⟩ := distinctD_spec h
      refine ⟨fun i o' d hi hd' => ?_, fun i j o1 o2 d hi hj h3 h4 => ?_⟩
      · cases i with
        | zero => simp at hi; subst hi; rw [hd] at hd'; cases hd'
        | succ i => exact h1 i o' d (by simpa using hi) hd'
      · cases i with
        | zero => simp at hi; subst hi; rw [hd] at h3; cases h3
        | succ i =>
          cases j with
          | zero => simp at hj; subst hj; rw [hd] at h4; cases h4
          | succ j => rw [h2 i j o1 o2 d (by simpa using hi) (by simpa using hj) h3 h4]
    | some d0 =>
      rw [hd] at h
      simp only [Bool.and_eq_true, Bool.not_eq_true', List.contains_eq_mem, decide_eq_false_iff_not] at h
      obtain ⟨h1, h2⟩ := distinctD_spec h.2
      refine ⟨fun i o' d hi hd' => ?_, fun i j o1 o2 d hi hj h3 h4 => ?_⟩
      · cases i with
        | zero => simp at hi; subst hi; rw [hd] at hd'; cases hd'; exact h.1
        | succ i => exact fun hm => h1 i o' d (by simpa using hi) hd' (List.mem_cons_of_mem _ hm)
      · cases i with
        | zero =>
          cases j with
          | zero => rfl
          | succ j => simp at hi; subst hi; rw [hd] at h3; cases h3; exact absurd (List.mem_cons_self) (h1 j o2 _ (by simpa using hj) h4)
        | succ i =>
          cases j with
          | zero => simp at hj; subst hj; rw [hd] at h4; cases h4; exact absurd (List.mem_cons_self) (h1 i o1 _ (by simpa using hi) h3)
          | succ j => rw [h2 i j o1 o2 d (by simpa using hi) (by simpa using hj) h3 h4]

theorem writer_spec : ∀ {ops : List Oper} {i w : Nat} {t : Tmp} {o : Oper}, (∀ (a b : Nat) (o o' : Oper) (d : Tmp), ops[a]? = some o → ops[b]? = some o' → o.dst = some d → o'.dst = some d → a = b) →
    ops[w]? = some o → o.dst = some t → writer ops i t = some (i + w)
  | [], i, w, t, o, _, h, _ => by simp at h
  | a :: ops, i, w, t, o, hd, h, ht => by
    simp only [writer]
    cases w with
    | zero =>
      simp only [List.getElem?_cons_zero, Option.some.injEq] at h; subst h
      simp [ht]
    | succ w =>
      have h' : ops[w]? = some o := by simpa using h
      have ih := writer_spec (i := Nat.succ i) (fun a b o1 o2 d x y z u => by
        have := hd (a + 1) (b + 1) o1 o2 d (by simpa using x) (by simpa using y) z u
        omega) h' ht
      cases ha : a.dst with
      | none => simp only []; rw [ih]; congr 1; omega
      | some d =>
        simp only []
        cases he : Nat.beq d t with
        | true =>
          have := Nat.eq_of_beq_eq_true he; subst this
          have := hd 0 (w + 1) a o d rfl h ha ht
          omega
        | false => simp only [cond_false]; rw [ih]; congr 1; omega

theorem readsOk_spec {ops : List Oper} {bs : List Nat} {i : Nat} {mv : Bool} : ∀ {ts : List Tmp}, readsOk ops bs i mv ts = true → ∀ t ∈ ts, ∀ w, writer ops 0 t = some w →
    Bf bs i w = true ∨ (mv = true ∧ Bf bs w i = true)
  | [], _, t, h, _, _ => by simp at h
  | a :: ts, h, t, hm, w, hw => by
    simp only [readsOk, Bool.and_eq_true] at h
    rcases List.mem_cons.1 hm with rfl | hm
    · rw [hw] at h
      simp only [Bool.or_eq_true, Bool.and_eq_true] at h
      exact h.1
    · exact readsOk_spec h.2 t hm w hw
theorem allReadsOk_spec {all : Array Oper} {ops : List Oper} {bs : List Nat} : ∀ {l : List Oper} {i : Nat}, allReadsOk all ops bs l i = true → ∀ k o, l[k]? = some o → readsOk ops bs (i + k) (isMv o.op) (reads o all) = true
  | [], i, _, k, o, h => by simp at h
  | a :: l, i, h, k, o, hk => by
    simp only [allReadsOk, Bool.and_eq_true] at h
    cases k with
    | zero => simp at hk; subst hk; exact h.1
    | succ k =>
      have := allReadsOk_spec h.2 k o (by simpa using hk)
      rw [show i + (k + 1) = Nat.succ i + k by omega]; exact this

theorem hardsOf_spec : ∀ {l : List Cl} {i : Nat}, (∀ k c, l[k]? = some c → isHd c.r = true → i + k ∈ hardsOf l i) ∧ ∀ h ∈ hardsOf l i, i ≤ h ∧ ∃ c, l[h - i]? = some c ∧ isHd c.r = true
  | [], i => ⟨fun k c h => by simp at h, fun h hm => by simp [hardsOf] at hm⟩
  | c :: l, i => by
    obtain ⟨h1, h2⟩ := @hardsOf_spec l (Nat.succ i)
    have key : ∀ h ∈ hardsOf l (Nat.succ i), i ≤ h ∧ ∃ c', (c :: l)[h - i]? = some c' ∧ isHd c'.r = true := by
      intro h hm
      obtain ⟨a, c', b, d⟩ := h2 h hm
      refine ⟨by omega, c', ?_, d⟩
      rw [show h - i = (h - Nat.succ i) + 1 by omega]; simpa using b
    simp only [hardsOf]
    cases hc : isHd c.r with
    | true =>
      simp only [cond_true]
      refine ⟨fun k c' hk hh => ?_, fun h hm => ?_⟩
      · cases k with
        | zero => simp
        | succ k =>
          refine List.mem_cons_of_mem _ ?_
          rw [show i + (k + 1) = Nat.succ i + k by omega]
          exact h1 k c' (by simpa using hk) hh
      · rcases List.mem_cons.1 hm with rfl | hm
        · exact ⟨Nat.le_refl _, c, by simp, hc⟩
        · exact key h hm
    | false =>
      simp only [cond_false]
      refine ⟨fun k c' hk hh => ?_, key⟩
      cases k with
      | zero => simp at hk; subst hk; rw [hc] at hh; cases hh
      | succ k =>
        rw [show i + (k + 1) = Nat.succ i + k by omega]
        exact h1 k c' (by simpa using hk) hh

def soft (P : Program) (nt : Nat) (all : Array Oper) (i : Nat) : Bool := match all[i]? with | some o => !isHd (mkCl P nt all o).r | none => false

/-- what is known of before-sets as they stand -/
structure PF0 (P : Program) (nt : Nat) (all : Array Oper) (bs H : List Nat) : Prop where
  bef : ∀ i o j, all[i]? = some o → (Bf bs i j = true ↔ ∃ e ∈ o.after.toList, Region.binds .any e = true ∧ (j = e.on ∨ Bf bs e.on j = true))
  edge : ∀ i o e, all[i]? = some o → e ∈ o.after.toList → Region.binds .any e = true → e.on < i
  out : ∀ i j, all.size ≤ i → Bf bs i j = false
  dist : ∀ (i j : Nat) (o o' : Oper) (d : Tmp), all[i]? = some o → all[j]? = some o' → o.dst = some d → o'.dst = some d → i = j
  rds : ∀ i o t, all[i]? = some o → t ∈ reads o all → ∀ w o', all[w]? = some o' → o'.dst = some t → Bf bs i w = true ∨ (isMv o.op = true ∧ Bf bs w i = true)
  hard : ∀ i o, all[i]? = some o → isHd (mkCl P nt all o).r = true → i ∈ H
  hard' : ∀ i, i ∈ H → ∃ o, all[i]? = some o ∧ isHd (mkCl P nt all o).r = true
theorem PF0.lt {nt : Nat} {all : Array Oper} {bs H : List Nat} (h : PF0 P nt all bs H) : ∀ {i j : Nat}, Bf bs i j = true → j < i := by
  intro i
  induction i using Nat.strongRecOn with
  | _ i ih =>
    intro j hj
    cases ho : all[i]? with
    | none => rw [h.out i j (by rcases Nat.lt_or_ge i all.size with x | x; · simp [Array.getElem?_eq_getElem x] at ho
                                · exact x)] at hj; cases hj
    | some o =>
      obtain ⟨e, a, b, c⟩ := (h.bef i o j ho).1 hj
      have he := h.edge i o e ho a b
      rcases c with rfl | c
      · exact he
      · have := ih e.on he c; omega

theorem PF0.tr {nt : Nat} {all : Array Oper} {bs H : List Nat} (h : PF0 P nt all bs H) : ∀ {i j k : Nat}, Bf bs i j = true → Bf bs j k = true → Bf bs i k = true := by
  intro i
  induction i using Nat.strongRecOn with
  | _ i ih =>
    intro j k hj hk
    cases ho : all[i]? with
    | none => rw [h.out i j (by rcases Nat.lt_or_ge i all.size with x | x; · simp [Array.getElem?_eq_getElem x] at ho
                                · exact x)] at hj; cases hj
    | some o =>
      obtain ⟨e, a, b, c⟩ := (h.bef i o j ho).1 hj
      rw [h.bef i o k ho]
      refine ⟨e, a, b, .inr ?_⟩
      rcases c with rfl | c
      · exact hk
      · exact ih e.on (h.edge i o e ho a b) c hk

/-- what is known of a plan; X: what is asked to come before, beside the edges -/
structure PF (P : Program) (nt : Nat) (all : Array Oper) (X : Nat → List Nat) (bs H : List Nat) : Prop where
  bef : ∀ i o j, all[i]? = some o → Bf bs i j = true → (∃ e ∈ o.after.toList, Region.binds .any e = true ∧ (j = e.on ∨ Bf bs e.on j = true)) ∨ ∃ m ∈ X i, j = m ∨ Bf bs m j = true
  edge : ∀ i o e, all[i]? = some o → e ∈ o.after.toList → Region.binds .any e = true → e.on < i
  tr : ∀ {i j k : Nat}, Bf bs i j = true → Bf bs j k = true → Bf bs i k = true
  irr : ∀ i, Bf bs i i = false
  lt : ∀ {i o j}, all[i]? = some o → (soft P nt all i = true ∨ o.dst ≠ none) → Bf bs i j = true → j < i
  out : ∀ i j, all.size ≤ i → Bf bs i j = false
  dist : ∀ (i j : Nat) (o o' : Oper) (d : Tmp), all[i]? = some o → all[j]? = some o' → o.dst = some d → o'.dst = some d → i = j
  rds : ∀ i o t, all[i]? = some o → t ∈ reads o all → ∀ w o', all[w]? = some o' → o'.dst = some t → Bf bs i w = true ∨ (isMv o.op = true ∧ Bf bs w i = true)
  hard : ∀ i o, all[i]? = some o → isHd (mkCl P nt all o).r = true → i ∈ H
  hard' : ∀ i, i ∈ H → ∃ o, all[i]? = some o ∧ isHd (mkCl P nt all o).r = true
  chain : chained bs H = true

theorem befs_length : ∀ {ops : List Oper} {acc res : List Nat} {i : Nat}, befs ops i acc = some res → res.length = acc.length + ops.length
  | [], acc, res, i, h => by simp only [befs, Option.some.injEq] at h; subst h; simp
  | o :: ops, acc, res, i, h => by
    simp only [befs] at h
    cases he : edgesOk i o.after.toList with
    | false => rw [he] at h; cases h
    | true =>
      rw [he] at h; simp only [cond_true] at h
      have := befs_length h
      simp at this ⊢; omega

def dopsFrom (P : Program) (nt : Nat) (all : Array Oper) (bs H : List Nat) (j : Nat) : List Dop := mkDops bs H (all.toList.drop j) (mkCls P nt all (all.toList.drop j)) j

theorem befs_PF0 {nt : Nat} {all : Array Oper} {bs : List Nat} (hb : befs all.toList 0 [] = some bs) (hd : distinctD all.toList [] = true) (hr : allReadsOk all all.toList bs all.toList 0 = true) :
    PF0 P nt all bs (hardsOf (mkCls P nt all all.toList) 0) := by
      obtain ⟨_, b2⟩ := befs_spec hb rfl
      obtain ⟨_, d2⟩ := distinctD_spec hd
      obtain ⟨e1, e2⟩ := @hardsOf_spec (mkCls P nt all all.toList) 0
      have tl : ∀ i : Nat, all.toList[i]? = all[i]? := fun i => Array.getElem?_toList ..
      have hcl : ∀ (i : Nat) (o : Oper), all[i]? = some o → (mkCls P nt all all.toList)[i]? = some (mkCl P nt all o) := by
        intro i o ho
        rw [mkCls_drop, List.getElem?_map, tl, ho]; rfl
      refine ⟨?_, ?_, ?_, ?_, ?_, ?_, ?_⟩
      · intro i o j ho
        have := (b2 i o (by rw [tl]; exact ho)).2 j
        simpa using this
      · intro i o e ho he hbd
        have := (b2 i o (by rw [tl]; exact ho)).1 e he hbd
        simpa using this
      · intro i j hi
        have hl := befs_length hb
        simp at hl
        have : bs.getD i 0 = 0 := by simp [List.getD, List.getElem?_eq_none (by omega : bs.length ≤ i)]
        simp only [Bf, this, Nat.zero_testBit]
      · intro i j o o' d h1 h2 h3 h4
        exact d2 i j o o' d (by rw [tl]; exact h1) (by rw [tl]; exact h2) h3 h4
      · intro i o t ho ht w o' hw hd'
        have h1 := allReadsOk_spec hr i o (by rw [tl]; exact ho)
        rw [Nat.zero_add] at h1
        exact readsOk_spec h1 t ht w (by
          have := writer_spec (i := 0) (fun a b o o' d => d2 a b o o' d) (by rw [tl]; exact hw) hd'
          simpa using this)
      · intro i o ho hh
        have := e1 i _ (hcl i o ho) hh
        simpa using this
      · intro i hi
        obtain ⟨_, c, h2, h3⟩ := e2 i hi
        simp only [Nat.sub_zero] at h2
        rw [mkCls_drop, List.getElem?_map, tl] at h2
        cases ho : all[i]? with
        | none => simp [ho] at h2
        | some o => simp [ho] at h2; subst h2; exact ⟨o, rfl, h3⟩

theorem PF0.pf {nt : Nat} {all : Array Oper} {bs H : List Nat} (h : PF0 P nt all bs H) (hc : chained bs H = true) : PF P nt all (fun _ => []) bs H :=
  ⟨fun i o j ho hj => .inl ((h.bef i o j ho).1 hj), h.edge, h.tr, fun i => by
    cases hb : Bf bs i i with
    | false => rfl
    | true => have := h.lt hb; omega, fun _ _ hj => h.lt hj, h.out, h.dist, h.rds, h.hard, h.hard', hc⟩

theorem planOf_spec {nt : Nat} {all : Array Oper} {pl : Plan} (h : planOf P nt all = some pl) :
    ∃ bs H, PF P nt all (fun _ => []) bs H ∧ pl = ⟨dopsFrom P nt all bs H 0, pick (mkCls P nt all all.toList) H⟩ := by
  simp only [planOf] at h
  cases hb : befs all.toList 0 [] with
  | none => simp [hb] at h
  | some bs =>
    simp only [hb] at h
    cases hk : chained bs (hardsOf (mkCls P nt all all.toList) 0) && distinctD all.toList [] && allReadsOk all all.toList bs all.toList 0 with
    | false => rw [hk] at h; cases h
    | true =>
      rw [hk] at h; simp only [cond_true, Option.some.injEq] at h
      simp only [Bool.and_eq_true] at hk
      obtain ⟨⟨hc, hd⟩, hr⟩ := hk
      exact ⟨bs, hardsOf (mkCls P nt all all.toList) 0, (befs_PF0 hb hd hr).pf hc, by rw [← h]; rfl⟩

/-! ### two hard ones that are not ordered -/

def XOf (a b i : Nat) : List Nat := if i = b then [a] else []

theorem notBit_spec {h : Nat} : ∀ {bs : List Nat}, notBit h bs = true → ∀ i, Bf bs i h = false
  | [], _, i => by simp [Bf]
  | b :: l, hn, i => by
    simp only [notBit, Bool.and_eq_true, Bool.not_eq_true'] at hn
    cases i with
    | zero => simpa [Bf] using hn.1
    | succ i => simpa [Bf] using notBit_spec hn.2 i

theorem setNat_get : ∀ (l : List Nat) (i k v : Nat), (setNat l i v).getD k 0 = if k = i ∧ i < l.length then v else l.getD k 0
  | [], i, k, v => by simp [setNat]
  | a :: l, 0, k, v => by cases k <;> simp [setNat]
  | a :: l, i + 1, k, v => by
    cases k with
    | zero => simp [setNat]
    | succ k =>
      have := setNat_get l i k v
      simp only [setNat, List.getD_cons_succ, this, List.length_cons, Nat.add_right_cancel_iff, Nat.add_lt_add_iff_right]

theorem addBef_ne {bs : List Nat} {a b i : Nat} (h : i ≠ b) (j : Nat) : Bf (addBef bs a b) i j = Bf bs i j := by
  simp only [Bf, addBef, setNat_get, h, false_and, if_false]
theorem addBef_self {bs : List Nat} {a b : Nat} (h : b < bs.length) (j : Nat) : Bf (addBef bs a b) b j = true ↔ (Bf bs b j = true ∨ a = j ∨ Bf bs a j = true) := by
  have e : ∀ x y, Nat.lor x y = x ||| y := fun _ _ => rfl
  simp only [Bf, addBef, setNat_get, h, and_self, if_true, e, Nat.testBit_or, testBit_two_pow', Bool.or_eq_true, decide_eq_true_eq, or_assoc]

theorem PF0.pfX {nt : Nat} {all : Array Oper} {bs H : List Nat} (h : PF0 P nt all bs H) {pre : List Nat} {a b : Nat} (hlen : bs.length = all.size) (hH : ∀ i, i ∈ H ↔ i ∈ pre ∨ i = a ∨ i = b) (hab : a ≠ b) (hb : notBit b bs = true)
    (hdb : ∀ o, all[b]? = some o → o.dst = none) (hc : chained (addBef bs a b) (pre ++ [a, b]) = true) : PF P nt all (XOf a b) (addBef bs a b) (pre ++ [a, b]) := by
  have hblt : b < bs.length := by
    rw [hlen]
    obtain ⟨o, ho, _⟩ := h.hard' b ((hH b).2 (.inr (.inr rfl)))
    rcases Nat.lt_or_ge b all.size with x | x
    · exact x
    · rw [Array.getElem?_eq_none x] at ho; cases ho
  have hself := fun j => addBef_self (a := a) hblt j
  have hnb : ∀ i, Bf (addBef bs a b) i b = true → False := by
    intro i hi
    by_cases e : i = b
    · subst e
      rcases (hself i).1 hi with x | x | x
      · rw [notBit_spec hb] at x; cases x
      · exact hab x
      · rw [notBit_spec hb] at x; cases x
    · rw [addBef_ne e, notBit_spec hb] at hi; cases hi
  have hmono : ∀ {i j}, Bf bs i j = true → Bf (addBef bs a b) i j = true := by
    intro i j hij
    by_cases e : i = b
    · subst e; exact (hself j).2 (.inl hij)
    · rw [addBef_ne e]; exact hij
  refine ⟨?_, h.edge, ?_, ?_, ?_, ?_, h.dist, ?_, ?_, ?_, ?_⟩
  · intro i o j ho hj
    by_cases e : i = b
    · subst e
      rcases (hself j).1 hj with x | x | x
      · obtain ⟨e, q1, q2, q3⟩ := (h.bef i o j ho).1 x
        exact .inl ⟨e, q1, q2, q3.imp id hmono⟩
      · exact .inr ⟨a, by simp [XOf], .inl x.symm⟩
      · exact .inr ⟨a, by simp [XOf], .inr (hmono x)⟩
    · rw [addBef_ne e] at hj
      obtain ⟨e, q1, q2, q3⟩ := (h.bef i o j ho).1 hj
      exact .inl ⟨e, q1, q2, q3.imp id hmono⟩
  · intro i j k hij hjk
    have hjb : j ≠ b := fun e => by subst e; exact hnb i hij
    rw [addBef_ne hjb] at hjk
    by_cases e : i = b
    · subst e
      rcases (hself j).1 hij with x | x | x
      · exact hmono (h.tr x hjk)
      · subst x; exact (hself k).2 (.inr (.inr hjk))
      · exact (hself k).2 (.inr (.inr (h.tr x hjk)))
    · rw [addBef_ne e] at hij
      exact hmono (h.tr hij hjk)
  · intro i
    cases hi : Bf (addBef bs a b) i i with
    | false => rfl
    | true =>
      exfalso
      by_cases e : i = b
      · subst e; exact hnb i hi
      · rw [addBef_ne e] at hi
        have := h.lt hi; omega
  · intro i o j ho hs hij
    by_cases e : i = b
    · subst e
      rcases hs with x | x
      · obtain ⟨o', ho', hh⟩ := h.hard' i ((hH i).2 (.inr (.inr rfl)))
        simp [soft, ho', hh] at x
      · exact absurd (hdb o ho) x
    · rw [addBef_ne e] at hij; exact h.lt hij
  · intro i j hi
    rw [addBef_ne (by omega)]; exact h.out i j hi
  · intro i o t ho ht w o' hw hd
    rcases h.rds i o t ho ht w o' hw hd with x | ⟨x, y⟩
    · exact .inl (hmono x)
    · exact .inr ⟨x, hmono y⟩
  · intro i o ho hh
    have := (hH i).1 (h.hard i o ho hh)
    simpa using this
  · intro i hi
    exact h.hard' i ((hH i).2 (by simpa using hi))
  · exact hc

theorem noDst_spec {nt : Nat} {all : Array Oper} {i : Nat} (h : noDst (mkCls P nt all all.toList) i = true) (hh : ∃ o, all[i]? = some o ∧ isHd (mkCl P nt all o).r = true) : ∀ o, all[i]? = some o → o.dst = none := by
  intro o ho
  obtain ⟨o', ho', hh⟩ := hh
  rw [ho] at ho'; cases ho'
  have hc : (mkCls P nt all all.toList)[i]? = some (mkCl P nt all o) := by
    rw [mkCls_drop, List.getElem?_map, Array.getElem?_toList, ho]; rfl
  unfold noDst at h
  rw [hc] at h
  simp only [] at h
  rcases mkCl_cases (P := P) nt all o with e | ⟨gd, e, _⟩
  · rw [e] at hh; simp [isHd, rdNo] at hh
  · rw [e] at h
    simp only [] at h
    cases hd : o.dst with
    | none => rfl
    | some d => rw [hd] at h; cases h

theorem last2_spec : ∀ {l pre : List Nat} {a b : Nat}, last2 l = some (pre, a, b) → l = pre ++ [a, b]
  | [], _, _, _, h => by simp [last2] at h
  | [_], _, _, _, h => by simp [last2] at h
  | [x, y], _, _, _, h => by simp only [last2, Option.some.injEq, Prod.mk.injEq] at h; obtain ⟨rfl, rfl, rfl⟩ := h; rfl
  | x :: y :: z :: l, pre, a, b, h => by
    simp only [last2] at h
    cases h1 : last2 (y :: z :: l) with
    | none => simp [h1] at h
    | some q =>
      obtain ⟨p, a', b'⟩ := q
      simp only [h1, Option.some.injEq, Prod.mk.injEq] at h
      obtain ⟨rfl, rfl, rfl⟩ := h
      rw [last2_spec h1]; rfl

theorem planX_spec {nt : Nat} {all : Array Oper} {A B : Plan} (h : planX P nt all = some (A, B)) :
    ∃ bs pre a b, a ≠ b ∧ PF P nt all (XOf a b) (addBef bs a b) (pre ++ [a, b]) ∧ PF P nt all (XOf b a) (addBef bs b a) (pre ++ [b, a]) ∧
      A = ⟨dopsFrom P nt all (addBef bs a b) (pre ++ [a, b]) 0, pick (mkCls P nt all all.toList) (pre ++ [a, b])⟩ ∧ B = ⟨dopsFrom P nt all (addBef bs b a) (pre ++ [b, a]) 0, pick (mkCls P nt all all.toList) (pre ++ [b, a])⟩ := by
  simp only [planX] at h
  cases hb : befs all.toList 0 [] with
  | none => simp [hb] at h
  | some bs =>
    simp only [hb] at h
    cases hl : last2 (hardsOf (mkCls P nt all all.toList) 0) with
    | none => simp [hl] at h
    | some q =>
      obtain ⟨pre, a, b⟩ := q
      simp only [hl] at h
      have hH := last2_spec hl
      cases hk : Nat.blt a b && notBit a bs && notBit b bs && noDst (mkCls P nt all all.toList) a && noDst (mkCls P nt all all.toList) b && distinctD all.toList [] && allReadsOk all all.toList bs all.toList 0 &&
          chained (addBef bs a b) (pre ++ [a, b]) && chained (addBef bs b a) (pre ++ [b, a]) with
      | false => rw [hk] at h; cases h
      | true =>
        rw [hk] at h
        simp only [cond_true, Option.some.injEq, Prod.mk.injEq] at h
        simp only [Bool.and_eq_true, Nat.blt_eq] at hk
        obtain ⟨⟨⟨⟨⟨⟨⟨⟨k1, k2⟩, k3⟩, k4⟩, k5⟩, k6⟩, k7⟩, k8⟩, k9⟩ := hk
        have h0 : PF0 P nt all bs (pre ++ [a, b]) := hH ▸ befs_PF0 hb k6 k7
        have hlen : bs.length = all.size := by have := befs_length hb; simpa using this
        have hda := noDst_spec k4 (h0.hard' a (by simp))
        have hdb := noDst_spec k5 (h0.hard' b (by simp))
        exact ⟨bs, pre, a, b, by omega, h0.pfX hlen (fun i => by simp) (by omega) k3 hdb k8, h0.pfX hlen (fun i => by simp [or_comm]) (by omega) k2 hda k9, h.1.symm, h.2.symm⟩

namespace PF
variable {nt : Nat} {all : Array Oper} {X : Nat → List Nat} {bs H : List Nat}

theorem chain_lt (h : PF P nt all X bs H) : ∀ {k k' i i' : Nat}, k < k' → H[k]? = some i → H[k']? = some i' → Bf bs i' i = true := by
  have key : ∀ (l : List Nat), chained bs l = true → ∀ {k k' i i' : Nat}, k < k' → l[k]? = some i → l[k']? = some i' → Bf bs i' i = true := by
    intro l
    induction l with
    | nil => intro _ k k' i i' _ hi; simp at hi
    | cons a l ih =>
      intro hc k k' i i' hlt hi hi'
      cases l with
      | nil =>
        cases k' with
        | zero => omega
        | succ k' => simp at hi'
      | cons b l =>
        simp only [chained, Bool.and_eq_true] at hc
        cases k' with
        | zero => omega
        | succ k' =>
          simp only [List.getElem?_cons_succ] at hi'
          cases k with
          | zero =>
            simp only [List.getElem?_cons_zero, Option.some.injEq] at hi; subst hi
            cases k' with
            | zero => simp only [List.getElem?_cons_zero, Option.some.injEq] at hi'; subst hi'; exact hc.1
            | succ k' =>
              have := ih hc.2 (k := 0) (k' := k' + 1) (by omega) rfl hi'
              exact h.tr this hc.1
          | succ k =>
            exact ih hc.2 (k := k) (k' := k') (by omega) (by simpa using hi) hi'
  exact fun {k k' i i'} a b c => key H h.chain a b c

theorem loOf_spec (h : PF P nt all X bs H) {i : Nat} : ∀ {k hh : Nat}, H[k]? = some hh → (k < loOf (bs.getD i 0) H ↔ Bf bs i hh = true) := by
  have key : ∀ (l : List Nat), (∀ (k k' a b : Nat), k < k' → l[k]? = some a → l[k']? = some b → Bf bs b a = true) → ∀ {k hh : Nat}, l[k]? = some hh → (k < loOf (bs.getD i 0) l ↔ Bf bs i hh = true) := by
    intro l
    induction l with
    | nil => intro _ k hh hk; simp at hk
    | cons a l ih =>
      intro hc k hh hk
      simp only [loOf]
      cases ha : Nat.testBit (bs.getD i 0) a with
      | false =>
        simp only [cond_false, Nat.not_lt_zero, false_iff]
        intro hb
        cases k with
        | zero => simp at hk; subst hk; rw [Bf, ha] at hb; cases hb
        | succ k =>
          have := h.tr hb (hc 0 (k + 1) a hh (by omega) rfl hk)
          rw [Bf, ha] at this; cases this
      | true =>
        simp only [cond_true]
        cases k with
        | zero => simp at hk; subst hk; simp [Bf]; exact ha
        | succ k =>
          have := ih (fun k k' x y hl hx hy => hc (k + 1) (k' + 1) x y (by omega) (by simpa using hx) (by simpa using hy)) (k := k) (hh := hh) (by simpa using hk)
          rw [← this]; omega
  exact fun {k hh} hk => key H (fun k k' a b => h.chain_lt) hk

theorem loOf_le (b : Nat) : ∀ l : List Nat, loOf b l ≤ l.length
  | [] => Nat.le_refl _
  | a :: l => by
    simp only [loOf]
    cases Nat.testBit b a with
    | false => simp
    | true => simp [loOf_le b l]

theorem hiOf_spec {i : Nat} : ∀ {l : List Nat}, ∀ hh, l[hiOf bs i l]? = some hh → Bf bs hh i = true
  | [], hh, h => by simp at h
  | a :: l, hh, h => by
    simp only [hiOf] at h
    cases ha : Nat.testBit (bs.getD a 0) i with
    | true =>
      rw [ha] at h
      simp only [cond_true, List.getElem?_cons_zero, Option.some.injEq] at h; subst h
      exact ha
    | false =>
      rw [ha] at h
      simp only [cond_false, Nat.succ_eq_add_one, List.getElem?_cons_succ] at h
      exact hiOf_spec hh h
end PF

theorem dopsFrom_cons {nt : Nat} {all : Array Oper} {bs H : List Nat} {j : Nat} {o : Oper} (h : all[j]? = some o) :
    dopsFrom P nt all bs H j = ⟨mkCl P nt all o, isHd (mkCl P nt all o).r, loOf (bs.getD j 0) H, hiOf bs j H⟩ :: dopsFrom P nt all bs H (j + 1) := by
  unfold dopsFrom
  rw [drop_cons h]
  simp only [mkCls, mkDops]
theorem dopsFrom_nil {nt : Nat} {all : Array Oper} {bs H : List Nat} {j : Nat} (h : all.size ≤ j) : dopsFrom P nt all bs H j = [] := by
  unfold dopsFrom
  rw [List.drop_eq_nil_of_le (by simpa using h)]; rfl

theorem pick_spec {cs : List Cl} : ∀ {H : List Nat}, (∀ h ∈ H, ∃ c, cs[h]? = some c) → pick cs H = H.filterMap (cs[·]?)
  | [], _ => rfl
  | h :: H, hc => by
    obtain ⟨c, e⟩ := hc h (List.mem_cons_self)
    simp [pick, e, pick_spec (fun x hx => hc x (List.mem_cons_of_mem _ hx))]

/-! ### the model's order -/

/-- the rest of an order of a region, where E is done -/
inductive Lin (all : Array Oper) (X : Nat → List Nat) : List Nat → (Nat → Bool) → Prop
  | nil {E : Nat → Bool} : (∀ i, i < all.size → E i = true) → Lin all X [] E
  | cons {E : Nat → Bool} {i : Nat} {L : List Nat} {o : Oper} : all[i]? = some o → E i = false → (∀ e ∈ o.after.toList, Region.binds .any e = true → E e.on = true) → (∀ m ∈ X i, E m = true) →
      Lin all X L (fun j => decide (j = i) || E j) → Lin all X (i :: L) E

theorem Lin.congr {all : Array Oper} {X : Nat → List Nat} {L : List Nat} {E E' : Nat → Bool} (h : Lin all X L E) (he : ∀ i, E i = E' i) : Lin all X L E' := by
  have : E = E' := funext he
  rw [← this]; exact h

theorem lin_go {all : Array Oper} (hedge : ∀ i o e, all[i]? = some o → e ∈ o.after.toList → Region.binds .any e = true → e.on < i) :
    ∀ (fuel t : Nat) (listed : Array Bool), listed.size = all.size → ((List.range all.size).filter (fun i => !listed.getD i true)).length = fuel →
      Lin all (fun _ => []) (Region.linearise.go .any all fuel t listed []) (fun i => listed.getD i false)
  | 0, t, listed, hs, hf => by
    refine .nil fun i hi => ?_
    have hnil := List.eq_nil_of_length_eq_zero hf
    have : i ∉ (List.range all.size).filter (fun i => !listed.getD i true) := by rw [hnil]; simp
    rw [List.mem_filter] at this
    have hb : (!listed.getD i true) = false := by
      cases hx : !listed.getD i true with
      | false => rfl
      | true => exact absurd ⟨List.mem_range.2 hi, hx⟩ this
    have hil : i < listed.size := by omega
    simp only [Array.getD, hil, dite_true] at hb ⊢
    simpa using hb
  | fuel + 1, t, listed, hs, hf => by
    rw [Region.linearise.go]
    generalize hrs : (List.range all.size).filter (fun i => !listed.getD i true && ((all[i]?).map (·.after.all fun e => !Region.binds .any e || listed.getD e.on false)).getD false) = rs
    -- the least one that is not listed is ready
    have hne : rs ≠ [] := by
      intro hnil
      have hall : ∀ i, i < all.size → listed.getD i true = true := by
        intro i
        induction i using Nat.strongRecOn with
        | _ i ih =>
          intro hi
          cases hx : listed.getD i true with
          | true => rfl
          | false =>
            exfalso
            have : i ∈ rs := by
              rw [← hrs, List.mem_filter]
              refine ⟨List.mem_range.2 hi, ?_⟩
              have ho : all[i]? = some all[i] := Array.getElem?_eq_getElem hi
              simp only [hx, ho, Option.map_some, Option.getD_some, Bool.not_false, Bool.true_and]
              rw [Array.all_eq_true']
              intro e he
              cases hb : Region.binds .any e with
              | false => rfl
              | true =>
                have hlt := hedge i _ e ho (by simpa using he) hb
                have := ih e.on hlt (by omega)
                have hel : e.on < listed.size := by omega
                simp only [Array.getD, hel, dite_true] at this ⊢
                simpa using this
            rw [hnil] at this; simp at this
      have : ((List.range all.size).filter (fun i => !listed.getD i true)) = [] := by
        rw [List.filter_eq_nil_iff]
        intro i hi
        simp [hall i (List.mem_range.1 hi)]
      rw [this] at hf; simp at hf
    have hlen : 0 < rs.length := List.length_pos_iff.2 hne
    have hget : rs[t % rs.length]? = some (rs[t % rs.length]'(Nat.mod_lt _ hlen)) := List.getElem?_eq_getElem (Nat.mod_lt _ hlen)
    rw [hget]
    simp only []
    rw [linearise_go_acc]
    generalize hi0 : rs[t % rs.length]'(Nat.mod_lt _ hlen) = i
    have him : i ∈ rs := by rw [← hi0]; exact List.getElem_mem _
    rw [← hrs, List.mem_filter] at him
    obtain ⟨hir, hcond⟩ := him
    have hil : i < all.size := List.mem_range.1 hir
    have hils : i < listed.size := by omega
    simp only [Bool.and_eq_true, Bool.not_eq_true'] at hcond
    obtain ⟨hl, hr⟩ := hcond
    have ho : all[i]? = some all[i] := Array.getElem?_eq_getElem hil
    simp only [ho, Option.map_some, Option.getD_some] at hr
    rw [Array.all_eq_true'] at hr
    simp only [List.reverse_cons, List.reverse_nil, List.nil_append, List.singleton_append]
    refine .cons ho ?_ ?_ (fun _ h => by simp at h) ?_
    · simp only [Array.getD, hils, dite_true] at hl ⊢; exact hl
    · intro e he hb
      have := hr e (by simpa using he)
      simpa [hb] using this
    · refine (lin_go hedge fuel (t / rs.length) (listed.setIfInBounds i true) (by simpa using hs) ?_).congr ?_
      · -- one less
        have h1 : ((List.range all.size).filter (fun j => !listed.getD j true)).length = fuel + 1 := hf
        have hset : ∀ j, j < all.size → (listed.setIfInBounds i true).getD j true = (decide (j = i) || listed.getD j true) := by
          intro j hj
          have hjs : j < listed.size := by omega
          by_cases e : j = i
          · subst e; simp [Array.getD, hjs]
          · simp [Array.getD, hjs, Array.getElem_setIfInBounds, Ne.symm e, e]
        have h2 : ((List.range all.size).filter (fun j => !(listed.setIfInBounds i true).getD j true)) = ((List.range all.size).filter (fun j => !listed.getD j true)).filter (fun j => !decide (j = i)) := by
          rw [List.filter_filter]
          refine List.filter_congr fun j hj => ?_
          rw [hset j (List.mem_range.1 hj)]
          simp
        rw [h2]
        have hnd : ((List.range all.size).filter (fun j => !listed.getD j true)).Nodup := List.Nodup.sublist List.filter_sublist List.nodup_range
        have him2 : i ∈ (List.range all.size).filter (fun j => !listed.getD j true) := List.mem_filter.2 ⟨hir, by rw [hl]; rfl⟩
        have h3 : ((List.range all.size).filter (fun j => !listed.getD j true)).filter (fun j => !decide (j = i)) = ((List.range all.size).filter (fun j => !listed.getD j true)).erase i := by
          rw [List.Nodup.erase_eq_filter hnd]
          refine List.filter_congr fun j _ => ?_
          simp only [bne]
          congr 1
        rw [h3, List.length_erase_of_mem him2, h1]; rfl
      · intro j
        by_cases e : j = i
        · subst e; simp [Array.getD, hils]
        · by_cases hjs : j < listed.size
          · simp [Array.getD, hjs, Array.getElem_setIfInBounds, Ne.symm e, e]
          · simp [Array.getD, hjs, e]

theorem lin_schedule {all : Array Oper} (hedge : ∀ i o e, all[i]? = some o → e ∈ o.after.toList → Region.binds .any e = true → e.on < i) (t : Nat) :
    Lin all (fun _ => []) (Region.schedule true all t) (fun _ => false) := by
  simp only [Region.schedule, Bool.true_or, if_true, Region.linearise]
  refine (lin_go hedge all.size t (Array.replicate all.size false) (by simp) ?_).congr ?_
  · have : ((List.range all.size).filter (fun i => !(Array.replicate all.size false).getD i true)) = List.range all.size := by
      rw [List.filter_eq_self]
      intro i hi
      simp [Array.getD, List.mem_range.1 hi]
    rw [this]; simp
  · intro i
    simp [Array.getD]

theorem lin_done {all : Array Oper} {a b : Nat} {L : List Nat} {E : Nat → Bool} (h : Lin all (fun _ => []) L E) : E a = true → Lin all (XOf a b) L E := by
  induction h with
  | nil hall => exact fun _ => .nil hall
  | cons ho hE he hx hr ih =>
    intro ha
    refine .cons ho hE he ?_ (ih (by simp [ha]))
    intro m hm
    unfold XOf at hm
    split at hm
    · simp at hm; subst hm; exact ha
    · simp at hm
/-- one of the two comes first -/
theorem lin_split {all : Array Oper} {a b : Nat} (hab : a ≠ b) {L : List Nat} {E : Nat → Bool} (h : Lin all (fun _ => []) L E) : Lin all (XOf a b) L E ∨ Lin all (XOf b a) L E := by
  induction h with
  | nil hall => exact .inl (.nil hall)
  | cons ho hE he hx hr ih =>
    rename_i E i L o
    by_cases e1 : i = a
    · subst e1
      exact .inl (.cons ho hE he (fun m hm => by simp [XOf, hab] at hm) (lin_done hr (by simp)))
    · by_cases e2 : i = b
      · subst e2
        exact .inr (.cons ho hE he (fun m hm => by simp [XOf, e1] at hm) (lin_done hr (by simp)))
      · rcases ih with x | x
        · exact .inl (.cons ho hE he (fun m hm => by simp [XOf, e2] at hm) x)
        · exact .inr (.cons ho hE he (fun m hm => by simp [XOf, e1] at hm) x)

end
end Go.AM
/- Regions that draw: the two machines side by side. -/
namespace Go.AM
noncomputable section
variable {P : Program}

def DV (g : T Value) (dst : Option Tmp) (v : Value) : Prop := ∀ d, dst = some d → ev g (.tmp d) = v

theorem sameL_eq {f : Nat} (ih : ∀ x y, sameV f x y = true → x = y) : ∀ {l l' : List Value}, sameV.sameL f l l' = true → l = l'
  | [], [], _ => rfl
  | x :: l, y :: l', h => by
    simp only [sameV.sameL, Bool.and_eq_true] at h
    rw [ih x y h.1, sameL_eq ih h.2]
  | [], _ :: _, h => by simp [sameV.sameL] at h
  | _ :: _, [], h => by simp [sameV.sameL] at h
theorem bytesEq_eq' : ∀ {a b : List UInt8}, bytesEq a b = true → a = b
  | [], [], _ => rfl
  | x :: a, y :: b, h => by
    simp only [bytesEq] at h
    cases hb : Nat.beq x.toNat y.toNat with
    | false => rw [hb] at h; cases h
    | true =>
      rw [hb] at h
      have e : x.toNat = y.toNat := Nat.eq_of_beq_eq_true hb
      rw [UInt8.toNat_inj.1 e, bytesEq_eq' h]
  | [], _ :: _, h => by simp [bytesEq] at h
  | _ :: _, [], h => by simp [bytesEq] at h
theorem sameV_eq : ∀ (f : Nat) (x y : Value), sameV f x y = true → x = y
  | 0, x, y, h => by simp [sameV] at h
  | f + 1, x, y, h => by
    have ihL := @sameL_eq f (sameV_eq f)
    unfold sameV at h
    split at h
    · simp at h; rw [h]
    · simp only [Bool.and_eq_true, kindEq, decide_eq_true_eq] at h; rw [h.1, h.2]
    · have := bytesEq_eq' h
      congr 1
      exact ByteArray.ext (Array.toList_inj.1 this)
    · rfl
    · simp at h; rw [h]
    · simp at h; rw [h.1, h.2]
    · simp at h; rw [h.1.1, h.1.2, h.2]
    · rfl
    · simp at h; rw [h]
    · rfl
    · rfl
    · simp only [Bool.and_eq_true, Nat.beq_eq] at h
      rw [h.1.1, Array.toList_inj.1 (ihL h.1.2), Array.toList_inj.1 (ihL h.2)]
    · rw [Nat.eq_of_beq_eq_true h]
    · simp only [Bool.and_eq_true, Nat.beq_eq] at h
      rw [h.1.1, Array.toList_inj.1 (ihL h.1.2), Array.toList_inj.1 (ihL h.2)]
    · simp only [Bool.and_eq_true, Nat.beq_eq] at h
      rw [h.1, sameV_eq f _ _ h.2]
    · rw [Array.toList_inj.1 (ihL h)]
    · rw [Array.toList_inj.1 (ihL h)]
    · cases h
theorem sameD_eq {g : T Value} {dst : Option Tmp} {v : Value} (h : sameD g dst v = true) : DV g dst v := by
  intro d hd
  subst hd
  exact (sameV_eq _ _ _ h).symm

theorem eqT_eq {α : Type} {f : α → α → Bool} (hf : ∀ x y, f x y = true → x = y) : ∀ {a b : T α}, eqT f a b = true → a = b
  | .leaf, .leaf, _ => rfl
  | .node l v r, .node l' v' r', h => by
    simp only [eqT, Bool.and_eq_true] at h
    have e1 := eqT_eq hf h.1.2
    have e2 := eqT_eq hf h.2
    have e3 : v = v' := by
      have := h.1.1
      cases v <;> cases v' <;> simp only [eqT.eqOpt] at this <;> first | rfl | (cases this; done) | rw [hf _ _ this]
    rw [e1, e2, e3]
  | .leaf, .node _ _ _, h => by simp [eqT] at h
  | .node _ _ _, .leaf, h => by simp [eqT] at h
theorem eqVal_eq (x y : Value) (h : eqVal x y = true) : x = y := by
  unfold eqVal at h
  split at h
  · rfl
  · exact sameV_eq _ _ _ h
theorem eqON_eq {x y : Option Nat} (h : eqON x y = true) : x = y := by
  cases x <;> cases y <;> simp only [eqON] at h <;> first | rfl | (cases h; done) | rw [Nat.eq_of_beq_eq_true h]
theorem eqEs_eq : ∀ {x y : List (Value × Value)}, eqEs x y = true → x = y
  | [], [], _ => rfl
  | (k, v) :: l, (k', v') :: l', h => by
    simp only [eqEs, Bool.and_eq_true] at h
    rw [eqVal_eq _ _ h.1.1, eqVal_eq _ _ h.1.2, eqEs_eq h.2]
  | [], _ :: _, h => by simp [eqEs] at h
  | _ :: _, [], h => by simp [eqEs] at h
theorem bytesEq_sound : ∀ {x y : List UInt8}, bytesEq x y = true → x = y := by
  intro x y h
  rw [bytesEq_eq] at h
  simpa using h
theorem eqO_eq (x y : AObj) (h : eqO x y = true) : x = y := by
  unfold eqO at h
  split at h <;> first | rfl | (cases h; done) | skip
  · simp only [Bool.and_eq_true] at h
    obtain ⟨⟨⟨⟨h1, h2⟩, h3⟩, h4⟩, h5⟩ := h
    rw [eqT_eq eqVal_eq h1, Nat.eq_of_beq_eq_true h2, Nat.eq_of_beq_eq_true h3, eqON_eq h4, Nat.eq_of_beq_eq_true h5]
  · simp only [Bool.and_eq_true] at h
    rw [eqEs_eq h.1, Nat.eq_of_beq_eq_true h.2]
  · simp only [Bool.and_eq_true] at h
    rw [eqEs_eq h.1, Nat.eq_of_beq_eq_true h.2]
  · rw [Nat.eq_of_beq_eq_true h]
  · simp only [Bool.and_eq_true] at h
    rw [eqON_eq h.1, Nat.eq_of_beq_eq_true h.2]
  · simp only [Bool.and_eq_true] at h
    rw [bytesEq_sound h.1.1, ByteArray.ext (Array.toList_inj.1 (bytesEq_sound h.1.2)), Nat.eq_of_beq_eq_true h.2]
theorem eqS'_eq {x y : S} (h : eqS' x y = true) : x = y := by
  obtain ⟨a, b, c⟩ := x
  obtain ⟨a', b', c'⟩ := y
  simp only [eqS', Bool.and_eq_true] at h
  rw [eqT_eq eqO_eq h.1.1, Nat.eq_of_beq_eq_true h.1.2, Nat.eq_of_beq_eq_true h.2]

section
variable (P : Program) (nt : Nat) (all : Array Oper) (bs H : List Nat)

def lof (i : Nat) : Nat := loOf (bs.getD i 0) H
/-- what the abstract machine has done -/
def dnf (p j i : Nat) : Bool := soft P nt all i && (decide (lof bs H i < p) || (decide (lof bs H i = p) && decide (i < j)))

def OpF (ι : Inj) (g : T Value) (tmps : Array Value) (E dn : Nat → Bool) (i : Nat) (gi : T Value) (t : Tmp) : Prop :=
  (∃ w o, all[w]? = some o ∧ o.dst = some t ∧ Bf bs i w = true ∧ E w = false ∧ dn w = true ∧ ev gi (.tmp t) = ev g (.tmp t)) ∨
  (VRel ι (ev gi (.tmp t)) (tmps.getD t undef) ∧ ∀ w o, all[w]? = some o → o.dst = some t → E w = true ∨ Bf bs w i = true)

/-- an operation that the abstract machine has done, the model not -/
def Pend (hb : Nat) (ι : Inj) (s : S) (g : T Value) (tmps : Array Value) (E dn : Nat → Bool) (a : Nat → Option Nat) (i : Nat) (o : Oper) : Prop :=
  ∃ gd, mkCl P nt all o = ⟨cr P o.op, o.dst, gd⟩ ∧ mkGd all o.guard = some gd ∧ dstOk nt o.dst = true ∧ gdOk nt gd = true ∧
    match cr P o.op with
    | .hd _ => False
    | .rd _ => True
    | .pu f => ∃ gi b, gdT gd gi = some b ∧ (b = false → DV g o.dst und) ∧ (b = true → ∃ v, f gi = some v ∧ DV g o.dst v) ∧ ∀ t ∈ reads o all, OpF all bs ι g tmps E dn i gi t
    | .al f => ∃ gi b, gdT gd gi = some b ∧ (b = false → DV g o.dst und) ∧
        (b = true → ∃ ob mk id, f gi = some (ob, mk) ∧ DV g o.dst (mk id) ∧ a i = some id ∧ hb ≤ id ∧ ι id = none ∧ s.h.get id = some ob) ∧ ∀ t ∈ reads o all, OpF all bs ι g tmps E dn i gi t

structure Dr (hb : Nat) (ι : Inj) (s : S) (g : T Value) (tmps : Array Value) (E dn : Nat → Bool) (p : Nat) (a : Nat → Option Nat) : Prop where
  ple : p ≤ H.length
  size : tmps.size = nt
  clo : ∀ i j, E i = true → Bf bs i j = true → E j = true
  hrd : ∀ k i, H[k]? = some i → (E i = true ↔ k < p)
  edn : ∀ i, soft P nt all i = true → E i = true → dn i = true
  ein : ∀ i, E i = true → i < all.size
  tmp : ∀ t, (∀ i o, all[i]? = some o → o.dst = some t → dn i = true → E i = true) → VRel ι (ev g (.tmp t)) (tmps.getD t undef)
  pend : ∀ i o, all[i]? = some o → dn i = true → E i = false → Pend P nt all bs hb ι s g tmps E dn a i o
  alt : ∀ i id, a i = some id → id < s.nx
  inj : ∀ i j id, a i = some id → a j = some id → i = j

/-- what is read stands -/
def RdF (g : T Value) (s : S) (p : Nat) : Prop := ∀ i o f gd, all[i]? = some o → mkCl P nt all o = ⟨.rd f, o.dst, gd⟩ → lof bs H i ≤ p → p ≤ hiOf bs i H →
  ∃ b, gdT gd g = some b ∧ (b = false → DV g o.dst und) ∧ (b = true → ∃ v, f g s = some v ∧ DV g o.dst v)
end

variable {nt : Nat} {all : Array Oper} {X : Nat → List Nat} {bs H : List Nat} {hb : Nat} {ι : Inj} {s : S} {g : T Value} {tmps : Array Value} {E dn : Nat → Bool} {p : Nat} {a : Nat → Option Nat} {w : World}

theorem dnf_soft {p j i : Nat} (h : dnf P nt all bs H p j i = true) : soft P nt all i = true := by
  simp only [dnf, Bool.and_eq_true] at h; exact h.1
theorem soft_some {i : Nat} (h : soft P nt all i = true) : ∃ o, all[i]? = some o ∧ isHd (mkCl P nt all o).r = false := by
  unfold soft at h
  cases ho : all[i]? with
  | none => simp [ho] at h
  | some o => simp [ho] at h; exact ⟨o, rfl, h⟩
theorem lof_le (hp : PF P nt all X bs H) {i j : Nat} (h : Bf bs i j = true) : lof bs H j ≤ lof bs H i := by
  rcases Nat.lt_or_ge (lof bs H i) (lof bs H j) with x | x
  · exfalso
    have hlt : lof bs H i < H.length := Nat.lt_of_lt_of_le x (PF.loOf_le _ _)
    have e : H[lof bs H i]? = some H[lof bs H i] := List.getElem?_eq_getElem hlt
    have h1 := (hp.loOf_spec (i := j) e).1 x
    have h2 := (hp.loOf_spec (i := i) e).2 (hp.tr h h1)
    exact absurd h2 (Nat.lt_irrefl _)
  · exact x

theorem ev_putD_ne {g : T Value} {dst : Option Tmp} {v : Value} {t : Tmp} (h : dst ≠ some t) : ev (putD g dst v) (.tmp t) = ev g (.tmp t) := by
  cases dst with
  | none => rfl
  | some d => simp only [putD]; rw [ev_set, if_neg (fun e => h (by rw [e]))]
theorem ev_putD_eq {g : T Value} {dst : Option Tmp} {v : Value} : DV (putD g dst v) dst v := by
  intro d hd; subst hd
  simp only [putD]; rw [ev_set, if_pos rfl]

theorem reads_opd {o : Oper} {t : Tmp} (h : Operand.tmp t ∈ o.op.operands.toList) : t ∈ reads o all := by
  unfold reads
  refine List.mem_append.2 (.inl ?_)
  rw [List.mem_filterMap]
  exact ⟨_, h, rfl⟩
theorem reads_gd {o : Oper} {d : Tmp} {b : Bool} (h : mkGd all o.guard = some (.on d b)) : d ∈ reads o all := by
  unfold reads
  refine List.mem_append.2 (.inr ?_)
  unfold mkGd at h
  cases hg : o.guard with
  | none => simp [hg] at h
  | some jw =>
    obtain ⟨j, w⟩ := jw
    simp only [hg] at h ⊢
    cases hj : all[j]? with
    | none => simp [hj] at h
    | some oj =>
      simp only [hj] at h ⊢
      cases hd : oj.dst with
      | none => simp [hd] at h
      | some d' => simp [hd] at h; simp [h.1]

/-- the abstract machine does one more -/
theorem Dr.exec (hp : PF P nt all X bs H) {j : Nat} (h : Dr P nt all bs H hb ι s g tmps E (dnf P nt all bs H p j) p a) {o : Oper} (ho : all[j]? = some o) (hs : soft P nt all j = true) (hlo : lof bs H j = p)
    {v : Value} {s' : S} {a' : Nat → Option Nat} (hnx : s.nx ≤ s'.nx) (hget : ∀ id, id < s.nx → s'.h.get id = s.h.get id)
    (ha : ∀ i, i ≠ j → a' i = a i) (haj : a' j = a j ∨ (a' j = some s.nx ∧ s.nx < s'.nx))
    (hpd : (∀ t ∈ reads o all, OpF all bs ι (putD g o.dst v) tmps E (dnf P nt all bs H p (j + 1)) j g t) → Pend P nt all bs hb ι s' (putD g o.dst v) tmps E (dnf P nt all bs H p (j + 1)) a' j o) :
    Dr P nt all bs H hb ι s' (putD g o.dst v) tmps E (dnf P nt all bs H p (j + 1)) p a' := by
  have hEj : E j = false := by
    cases hE : E j with
    | false => rfl
    | true => have := h.edn j hs hE; simp [dnf, hs, hlo] at this
  have hjn : dnf P nt all bs H p (j + 1) j = true := by simp [dnf, hs, hlo]
  have hmono : ∀ i, dnf P nt all bs H p j i = true → dnf P nt all bs H p (j + 1) i = true := by
    intro i hi
    simp only [dnf, Bool.and_eq_true, Bool.or_eq_true, decide_eq_true_eq] at hi ⊢
    exact ⟨hi.1, hi.2.imp id fun x => ⟨x.1, by omega⟩⟩
  have hback : ∀ i, i ≠ j → dnf P nt all bs H p (j + 1) i = true → dnf P nt all bs H p j i = true := by
    intro i hne hi
    simp only [dnf, Bool.and_eq_true, Bool.or_eq_true, decide_eq_true_eq] at hi ⊢
    exact ⟨hi.1, hi.2.imp id fun x => ⟨x.1, by omega⟩⟩
  have hdn_ne : ∀ i, dnf P nt all bs H p j i = true → i ≠ j := by
    intro i hi e; subst e
    simp [dnf, hlo] at hi
  have hopf : ∀ i gi t, i ≠ j → OpF all bs ι g tmps E (dnf P nt all bs H p j) i gi t → OpF all bs ι (putD g o.dst v) tmps E (dnf P nt all bs H p (j + 1)) i gi t := by
    intro i gi t _ hf
    rcases hf with ⟨w, ow, x1, x2, x3, x4, x5, x6⟩ | x
    · refine .inl ⟨w, ow, x1, x2, x3, x4, hmono w x5, ?_⟩
      rw [x6, ev_putD_ne]
      intro e
      exact hdn_ne w x5 (hp.dist w j ow o t x1 ho x2 e)
    · exact .inr x
  have hreads : ∀ t ∈ reads o all, OpF all bs ι (putD g o.dst v) tmps E (dnf P nt all bs H p (j + 1)) j g t := by
    intro t ht
    by_cases hw : ∃ (w : Nat) (ow : Oper), all[w]? = some ow ∧ ow.dst = some t
    · obtain ⟨w, ow, hw1, hw2⟩ := hw
      have huni : ∀ w' o', all[w']? = some o' → o'.dst = some t → w' = w := fun w' o' x y => hp.dist w' w o' ow t x hw1 y hw2
      rcases hp.rds j o t ho ht w ow hw1 hw2 with hb1 | ⟨_, hb1⟩
      · -- it comes before
        have hne : w ≠ j := fun e => by have := hp.irr j; rw [e] at hb1; rw [this] at hb1; cases hb1
        cases hEw : E w with
        | true =>
          refine .inr ⟨h.tmp t ?_, fun w' o' x y => .inl (by rw [huni w' o' x y]; exact hEw)⟩
          intro i o' x y _
          rw [huni i o' x y]; exact hEw
        | false =>
          -- a soft one: it is done
          have hsw : soft P nt all w = true := by
            cases hh : isHd (mkCl P nt all ow).r with
            | false => simp [soft, hw1, hh]
            | true =>
              exfalso
              have hm := hp.hard w ow hw1 hh
              obtain ⟨k, hk, hk2⟩ := List.getElem_of_mem hm
              have e : H[k]? = some w := by rw [List.getElem?_eq_getElem hk, hk2]
              have h1 := (hp.loOf_spec (i := j) e).2 hb1
              have h2 := (h.hrd k w e).2 (by have : loOf (bs.getD j 0) H = p := hlo; omega)
              rw [hEw] at h2; cases h2
          have hlw := lof_le hp hb1
          have hlt := hp.lt ho (.inl hs) hb1
          refine .inl ⟨w, ow, hw1, hw2, hb1, hEw, ?_, ?_⟩
          · simp only [dnf, hsw, Bool.true_and, Bool.or_eq_true, Bool.and_eq_true, decide_eq_true_eq]
            omega
          · rw [ev_putD_ne]
            intro e
            exact hne (hp.dist w j ow o t hw1 ho hw2 e)
      · -- it comes behind
        have hlt := hp.lt hw1 (.inr (by rw [hw2]; simp)) hb1
        have hlw := lof_le hp hb1
        refine .inr ⟨h.tmp t ?_, fun w' o' x y => .inr (by rw [huni w' o' x y]; exact hb1)⟩
        intro i o' x y hdn
        rw [huni i o' x y] at hdn
        simp only [dnf, Bool.and_eq_true, Bool.or_eq_true, decide_eq_true_eq] at hdn
        omega
    · refine .inr ⟨h.tmp t ?_, fun w' o' x y => absurd ⟨w', o', x, y⟩ hw⟩
      intro i o' x y _
      exact absurd ⟨i, o', x, y⟩ hw
  refine ⟨h.ple, h.size, h.clo, h.hrd, fun i x y => hmono i (h.edn i x y), h.ein, ?_, ?_, ?_, ?_⟩
  · intro t ht
    have hne : o.dst ≠ some t := fun e => by
      have := ht j o ho e hjn
      rw [hEj] at this; cases this
    rw [ev_putD_ne hne]
    exact h.tmp t fun i o' x y z => ht i o' x y (hmono i z)
  · intro i o' hi hdn hE
    by_cases e : i = j
    · subst e; rw [ho] at hi; cases hi
      exact hpd hreads
    · have hdn' := hback i e hdn
      obtain ⟨gd, q1, q2, q3, q4, q5⟩ := h.pend i o' hi hdn' hE
      have hdd : ∀ x, DV g o'.dst x → DV (putD g o.dst v) o'.dst x := by
        intro x hx d hd
        rw [ev_putD_ne (fun e' => e (hp.dist i j o' o d hi ho hd e')), hx d hd]
      refine ⟨gd, q1, q2, q3, q4, ?_⟩
      cases hcr : cr P o'.op with
      | hd f => rw [hcr] at q5; exact q5
      | rd f => trivial
      | pu f =>
        rw [hcr] at q5
        obtain ⟨gi, b, r1, r2, r3, r4⟩ := q5
        exact ⟨gi, b, r1, fun x => hdd _ (r2 x), fun x => let ⟨u, y, z⟩ := r3 x; ⟨u, y, hdd _ z⟩, fun t ht => hopf i gi t e (r4 t ht)⟩
      | al f =>
        rw [hcr] at q5
        obtain ⟨gi, b, r1, r2, r3, r4⟩ := q5
        refine ⟨gi, b, r1, fun x => hdd _ (r2 x), fun x => ?_, fun t ht => hopf i gi t e (r4 t ht)⟩
        obtain ⟨ob, mk, id, y1, y2, y3, y4, y5, y6⟩ := r3 x
        exact ⟨ob, mk, id, y1, hdd _ y2, by rw [ha i e]; exact y3, y4, y5, by rw [hget id (h.alt i id y3)]; exact y6⟩
  · intro i id hi
    by_cases e : i = j
    · subst e
      rcases haj with x | ⟨x, y⟩
      · rw [x] at hi; have := h.alt i id hi; omega
      · rw [x] at hi; cases hi; exact y
    · rw [ha i e] at hi; have := h.alt i id hi; omega
  · intro i k id hi hk
    by_cases e1 : i = j
    · by_cases e2 : k = j
      · rw [e1, e2]
      · subst e1
        rw [ha k e2] at hk
        rcases haj with x | ⟨x, y⟩
        · rw [x] at hi; exact h.inj i k id hi hk
        · rw [x] at hi; cases hi; have := h.alt k _ hk; omega
    · rw [ha i e1] at hi
      by_cases e2 : k = j
      · subst e2
        rcases haj with x | ⟨x, y⟩
        · rw [x] at hk; exact h.inj i k id hi hk
        · rw [x] at hk; cases hk; have := h.alt i _ hi; omega
      · rw [ha k e2] at hk; exact h.inj i k id hi hk

/-- a phase of the abstract machine -/
theorem ph1_ok (hp : PF P nt all X bs H) : ∀ (n j : Nat), j + n = all.size → ∀ (g : T Value) (s : S) (a : Nat → Option Nat), Dr P nt all bs H hb ι s g tmps E (dnf P nt all bs H p j) p a → SRel P ι s w → hb ≤ s.nx → s.lo ≤ s.nx →
    ∀ g' s', ph1 p (dopsFrom P nt all bs H j) g s = some (g', s') →
      ∃ a', Dr P nt all bs H hb ι s' g' tmps E (dnf P nt all bs H p all.size) p a' ∧ SRel P ι s' w ∧ ∀ hb', hb' ≤ s.nx → Fm hb' ι s w ι s' w
  | 0, j, hj, g, s, a, h, hS, _, _, g', s', hph => by
    rw [dopsFrom_nil (by omega)] at hph
    simp only [ph1, Option.some.injEq, Prod.mk.injEq] at hph
    obtain ⟨rfl, rfl⟩ := hph
    have : j = all.size := by omega
    subst this
    exact ⟨a, h, hS, fun hb' _ => Fm.refl _ _ _ _⟩
  | n + 1, j, hj, g, s, a, h, hS, hhb, hlo, g', s', hph => by
    have ho : all[j]? = some (all[j]'(by omega)) := Array.getElem?_eq_getElem (by omega)
    generalize all[j]'(by omega) = o at ho
    rw [dopsFrom_cons ho] at hph
    have hsk : ∀ {x : Bool}, (!isHd (mkCl P nt all o).r && Nat.beq (loOf (bs.getD j 0) H) p) = x → x = false → dnf P nt all bs H p j = dnf P nt all bs H p (j + 1) := by
      rintro x hx rfl
      funext i
      have : soft P nt all j = !isHd (mkCl P nt all o).r := by simp [soft, ho]
      simp only [dnf]
      by_cases e : i = j
      · subst e
        rw [this]
        cases hh : isHd (mkCl P nt all o).r with
        | true => simp
        | false =>
          rw [hh] at hx
          simp only [Bool.not_false, Bool.true_and] at hx
          have : lof bs H i ≠ p := fun e => by
            have h2 : loOf (bs.getD i 0) H = p := e
            rw [h2, Nat.beq_refl] at hx; cases hx
          simp [this]
      · have : decide (i < j) = decide (i < j + 1) := by
          have : i < j ↔ i < j + 1 := by omega
          simp [this]
        rw [this]
    rcases mkCl_cases (P := P) nt all o with hc | ⟨gd, hc, hm, hd, hgk⟩
    · cases hcond : (!isHd (mkCl P nt all o).r && Nat.beq (loOf (bs.getD j 0) H) p) with
      | false =>
        have hph' : ph1 p (dopsFrom P nt all bs H (j + 1)) g s = some (g', s') := by
          rw [hc] at hph hcond
          simp only [ph1] at hph
          rw [hcond] at hph; exact hph
        have := hsk hcond rfl
        rw [this] at h
        exact ph1_ok hp n (j + 1) (by omega) g s a h hS hhb hlo g' s' hph'
      | true =>
        rw [hc] at hph hcond
        simp only [ph1] at hph
        rw [hcond] at hph
        simp [gdT, rdNo] at hph
    · cases hcond : (!isHd (mkCl P nt all o).r && Nat.beq (loOf (bs.getD j 0) H) p) with
      | false =>
        have hph' : ph1 p (dopsFrom P nt all bs H (j + 1)) g s = some (g', s') := by
          rw [hc] at hph hcond
          simp only [ph1] at hph
          rw [hcond] at hph; exact hph
        have := hsk hcond rfl
        rw [this] at h
        exact ph1_ok hp n (j + 1) (by omega) g s a h hS hhb hlo g' s' hph'
      | true =>
        have hsj : soft P nt all j = true := by
          simp only [Bool.and_eq_true] at hcond
          simp only [soft, ho]; exact hcond.1
        have hlj : lof bs H j = p := by
          simp only [Bool.and_eq_true, Nat.beq_eq] at hcond
          exact hcond.2
        rw [hc] at hph hcond
        simp only [ph1] at hph
        rw [hcond] at hph
        simp only [cond_true] at hph
        have hfr : ι s.nx = none := hS.fresh _ (Nat.le_refl _)
        cases hgt : gdT gd g with
        | none => simp [hgt] at hph
        | some b =>
          cases b with
          | false =>
            simp only [hgt] at hph
            refine ph1_ok hp n (j + 1) (by omega) _ s a ?_ hS hhb hlo g' s' hph
            refine h.exec hp ho hsj hlj (Nat.le_refl _) (fun _ _ => rfl) (fun _ _ => rfl) (.inl rfl) fun hr => ⟨gd, hc, hm, hd, hgk, ?_⟩
            cases hcr : cr P o.op with
            | hd f => rw [hcr] at hcond; simp [isHd] at hcond
            | rd f => trivial
            | pu f => exact ⟨g, false, hgt, fun _ => ev_putD_eq, nofun, hr⟩
            | al f => exact ⟨g, false, hgt, fun _ => ev_putD_eq, nofun, hr⟩
          | true =>
            simp only [hgt] at hph
            cases hcr : cr P o.op with
            | hd f => rw [hcr] at hcond; simp [isHd] at hcond
            | rd f =>
              simp only [hcr] at hph
              cases hf : f g s with
              | none => simp [hf] at hph
              | some v =>
                simp only [hf] at hph
                refine ph1_ok hp n (j + 1) (by omega) _ s a ?_ hS hhb hlo g' s' hph
                exact h.exec hp ho hsj hlj (Nat.le_refl _) (fun _ _ => rfl) (fun _ _ => rfl) (.inl rfl) fun hr => ⟨gd, hc, hm, hd, hgk, by rw [hcr]; trivial⟩
            | pu f =>
              simp only [hcr] at hph
              cases hf : f g with
              | none => simp [hf] at hph
              | some v =>
                simp only [hf] at hph
                refine ph1_ok hp n (j + 1) (by omega) _ s a ?_ hS hhb hlo g' s' hph
                exact h.exec hp ho hsj hlj (Nat.le_refl _) (fun _ _ => rfl) (fun _ _ => rfl) (.inl rfl) fun hr => ⟨gd, hc, hm, hd, hgk, by
                  rw [hcr]; exact ⟨g, true, hgt, nofun, fun _ => ⟨v, hf, ev_putD_eq⟩, hr⟩⟩
            | al f =>
              simp only [hcr] at hph
              cases hf : f g with
              | none => simp [hf] at hph
              | some om =>
                obtain ⟨ob, mk⟩ := om
                simp only [hf] at hph
                have hD : Dr P nt all bs H hb ι (s.push ob) (putD g o.dst (mk s.nx)) tmps E (dnf P nt all bs H p (j + 1)) p (fun i => if i = j then some s.nx else a i) := by
                  refine h.exec hp ho hsj hlj (by rw [S.push_nx]; omega) (fun id hid => by rw [S.push_get, if_neg (by omega)]) (fun i hi => by simp [hi]) (.inr ⟨by simp, by rw [S.push_nx]; omega⟩) fun hr => ⟨gd, hc, hm, hd, hgk, ?_⟩
                  rw [hcr]
                  exact ⟨g, true, hgt, nofun, fun _ => ⟨ob, mk, s.nx, hf, ev_putD_eq, by simp, hhb, hfr, by rw [S.push_get, if_pos rfl]⟩, hr⟩
                obtain ⟨a', r1, r2, r3⟩ := ph1_ok hp n (j + 1) (by omega) _ _ _ hD (hS.prepush ob) (by rw [S.push_nx]; omega) (by rw [S.push_nx, S.push_lo]; omega) g' s' hph
                exact ⟨a', r1, r2, fun hb' hle => (Fm.prepush hS hle hlo ob).trans (r3 hb' (by rw [S.push_nx]; omega))⟩

theorem ph2_ok {g : T Value} {s : S} : ∀ (n j : Nat), j + n = all.size → ph2 p (dopsFrom P nt all bs H j) g s = true →
    ∀ i o f gd, j ≤ i → all[i]? = some o → mkCl P nt all o = ⟨.rd f, o.dst, gd⟩ → lof bs H i ≤ p → p ≤ hiOf bs i H →
      ∃ b, gdT gd g = some b ∧ (b = false → DV g o.dst und) ∧ (b = true → ∃ v, f g s = some v ∧ DV g o.dst v)
  | 0, j, hj, _, i, o, f, gd, hji, ho, _, _, _ => by rw [Array.getElem?_eq_none (by omega)] at ho; cases ho
  | n + 1, j, hj, hph, i, o, f, gd, hji, ho, hcl, hl, hh => by
    have ho' : all[j]? = some (all[j]'(by omega)) := Array.getElem?_eq_getElem (by omega)
    generalize all[j]'(by omega) = o1 at ho'
    rw [dopsFrom_cons ho'] at hph
    by_cases e : i = j
    · subst e
      rw [ho] at ho'; cases ho'
      rw [hcl] at hph
      simp only [ph2, Bool.and_eq_true] at hph
      obtain ⟨hph, _⟩ := hph
      have h1 : (Nat.ble (loOf (bs.getD i 0) H) p && Nat.ble p (hiOf bs i H)) = true := by
        simp only [Bool.and_eq_true, Nat.ble_eq]; exact ⟨hl, hh⟩
      rw [h1] at hph
      simp only [cond_true] at hph
      cases hgt : gdT gd g with
      | none => simp [hgt] at hph
      | some b =>
        cases b with
        | false => simp only [hgt] at hph; exact ⟨false, rfl, fun _ => sameD_eq hph, nofun⟩
        | true =>
          simp only [hgt] at hph
          cases hf : f g s with
          | none => simp [hf] at hph
          | some v => simp only [hf] at hph; exact ⟨true, rfl, nofun, fun _ => ⟨v, rfl, sameD_eq hph⟩⟩
    · refine ph2_ok n (j + 1) (by omega) ?_ i o f gd (by omega) ho hcl hl hh
      generalize mkCl P nt all o1 = c1 at hph
      obtain ⟨r, d, gg⟩ := c1
      simp only [ph2, Bool.and_eq_true] at hph
      exact hph.2

end
end Go.AM
/- Regions that draw: what the model does. -/
namespace Go.AM
noncomputable section
variable {P : Program} {nt : Nat} {all : Array Oper} {X : Nat → List Nat} {bs H : List Nat} {hb : Nat} {ι : Inj} {s : S} {g : T Value} {tmps : Array Value} {E dn : Nat → Bool} {p : Nat} {a : Nat → Option Nat} {w : World}

def up1 (E : Nat → Bool) (i : Nat) : Nat → Bool := fun j => decide (j = i) || E j
theorem up1_self (E : Nat → Bool) (i : Nat) : up1 E i i = true := by simp [up1]
theorem up1_ne {E : Nat → Bool} {i j : Nat} (h : j ≠ i) : up1 E i j = E j := by simp [up1, h]
theorem up1_of {E : Nat → Bool} {i j : Nat} (h : E j = true) : up1 E i j = true := by simp [up1, h]
theorem up1_false {E : Nat → Bool} {i j : Nat} (h : up1 E i j = false) : j ≠ i ∧ E j = false := by
  simp [up1] at h; exact h

theorem pt_get {tmps : Array Value} {dst : Option Tmp} {v : Value} {t : Tmp} (h : dst ≠ some t) : (pt tmps dst v).getD t undef = tmps.getD t undef := by
  cases dst with
  | none => rfl
  | some d =>
    have hne : t ≠ d := fun e => h (by rw [e])
    by_cases ht : t < tmps.size
    · simp [pt, Array.getD, ht, Array.getElem_setIfInBounds, Ne.symm hne]
    · simp [pt, Array.getD, ht]
theorem pt_self {tmps : Array Value} {d : Tmp} {v : Value} (h : d < tmps.size) : (pt tmps (some d) v).getD d undef = v := by
  simp [pt, Array.getD, h]

/-- the model does one -/
theorem Dr.conc (hp : PF P nt all X bs H) (h : Dr P nt all bs H hb ι s g tmps E dn p a) {i : Nat} {o : Oper} (ho : all[i]? = some o) (hd : dstOk nt o.dst = true) (hE : E i = false) (hrdy : ∀ j, Bf bs i j = true → E j = true)
    {ι' : Inj} {s' : S} {g' : T Value} {v' : Value} {p' : Nat} (hx : Ext ι ι') (hg : ∀ t, o.dst ≠ some t → ev g' (.tmp t) = ev g (.tmp t)) (hgs : dn i = true → ∀ t, ev g' (.tmp t) = ev g (.tmp t))
    (hv : ∀ d, o.dst = some d → VRel ι' (ev g' (.tmp d)) v') (hpl : p' ≤ H.length) (hhrd : ∀ k j, H[k]? = some j → (up1 E i j = true ↔ k < p')) (hdn : soft P nt all i = true → dn i = true)
    (hal : ∀ j id, j ≠ i → E j = false → a j = some id → ι id = none → ι' id = none ∧ s'.h.get id = s.h.get id) (hnx : s.nx ≤ s'.nx) :
    Dr P nt all bs H hb ι' s' g' (pt tmps o.dst v') (up1 E i) dn p' a := by
  have hlt : ∀ d, o.dst = some d → d < tmps.size := fun d e => by
    rw [e] at hd; rw [h.size]; simpa [dstOk] using hd
  refine ⟨hpl, by rw [pt_size]; exact h.size, ?_, hhrd, ?_, ?_, ?_, ?_, fun i id x => Nat.lt_of_lt_of_le (h.alt i id x) hnx, h.inj⟩
  · intro x y hx hy
    by_cases e : x = i
    · subst e; exact up1_of (hrdy y hy)
    · rw [up1_ne e] at hx; exact up1_of (h.clo x y hx hy)
  · intro x hs hx
    by_cases e : x = i
    · subst e; exact hdn hs
    · rw [up1_ne e] at hx; exact h.edn x hs hx
  · intro x hx
    by_cases e : x = i
    · subst e
      rcases Nat.lt_or_ge x all.size with y | y
      · exact y
      · rw [Array.getElem?_eq_none y] at ho; cases ho
    · rw [up1_ne e] at hx; exact h.ein x hx
  · intro t ht
    by_cases e : o.dst = some t
    · rw [e, pt_self (hlt t e)]; exact hv t e
    · rw [pt_get e, hg t e]
      refine (h.tmp t fun x ox q1 q2 q3 => ?_).mono hx
      have := ht x ox q1 q2 q3
      by_cases e2 : x = i
      · subst e2; rw [ho] at q1; cases q1; exact absurd q2 e
      · rwa [up1_ne e2] at this
  · intro j oj hj hdj hEj
    obtain ⟨hji, hEj'⟩ := up1_false hEj
    obtain ⟨gd, q1, q2, q3, q4, q5⟩ := h.pend j oj hj hdj hEj'
    have hdd : ∀ x, DV g oj.dst x → DV g' oj.dst x := by
      intro x hxv d hdx
      rw [hg d (fun e => hji (hp.dist j i oj o d hj ho hdx e)), hxv d hdx]
    have hopf : ∀ gi t, OpF all bs ι g tmps E dn j gi t → OpF all bs ι' g' (pt tmps o.dst v') (up1 E i) dn j gi t := by
      rintro gi t (⟨x, ox, x1, x2, x3, x4, x5, x6⟩ | ⟨x1, x2⟩)
      · by_cases e : x = i
        · subst e
          rw [ho] at x1; cases x1
          refine .inr ⟨?_, fun y oy y1 y2 => .inl ?_⟩
          · rw [x2, pt_self (hlt t x2), x6, ← hgs x5 t]; exact hv t x2
          · rw [hp.dist y x oy o t y1 ho y2 x2]; exact up1_self _ _
        · refine .inl ⟨x, ox, x1, x2, x3, by rw [up1_ne e]; exact x4, x5, ?_⟩
          rw [x6, hg t (fun e' => e (hp.dist x i ox o t x1 ho x2 e'))]
      · have hne : o.dst ≠ some t := fun e => by
          rcases x2 i o ho e with y | y
          · rw [hE] at y; cases y
          · have := hrdy j y; rw [hEj'] at this; cases this
        refine .inr ⟨by rw [pt_get hne]; exact x1.mono hx, fun y oy y1 y2 => (x2 y oy y1 y2).imp up1_of id⟩
    refine ⟨gd, q1, q2, q3, q4, ?_⟩
    cases hcr : cr P oj.op with
    | hd f => rw [hcr] at q5; exact q5
    | rd f => trivial
    | pu f =>
      rw [hcr] at q5
      obtain ⟨gi, b, r1, r2, r3, r4⟩ := q5
      exact ⟨gi, b, r1, fun x => hdd _ (r2 x), fun x => let ⟨u, y, z⟩ := r3 x; ⟨u, y, hdd _ z⟩, fun t ht => hopf gi t (r4 t ht)⟩
    | al f =>
      rw [hcr] at q5
      obtain ⟨gi, b, r1, r2, r3, r4⟩ := q5
      refine ⟨gi, b, r1, fun x => hdd _ (r2 x), fun x => ?_, fun t ht => hopf gi t (r4 t ht)⟩
      obtain ⟨ob, mk, id, y1, y2, y3, y4, y5, y6⟩ := r3 x
      obtain ⟨z1, z2⟩ := hal j id hji hEj' y3 y5
      exact ⟨ob, mk, id, y1, hdd _ y2, y3, y4, z1, by rw [z2]; exact y6⟩

theorem ORho.of {ι : Inj} {gi : T Value} {o : Oper} {tmps : Array Value} (h : ∀ t ∈ reads o all, VRel ι (ev gi (.tmp t)) (tmps.getD t undef)) : ORho ι gi (rho tmps) o.op.operands.toList := by
  intro x hx hok
  cases x with
  | tmp t => exact h t (reads_opd hx)
  | const v => exact .plainV hok
  | func f => exact .func .nil .nil
  | global _ => cases hok

/-- what stands before an operation that is not a bare move is done -/
theorem Dr.reads (hp : PF P nt all X bs H) (h : Dr P nt all bs H hb ι s g tmps E dn p a) {i : Nat} {o : Oper} (ho : all[i]? = some o) (hmv : isMv o.op = false) (hrdy : ∀ j, Bf bs i j = true → E j = true) :
    ∀ t ∈ reads o all, VRel ι (ev g (.tmp t)) (tmps.getD t undef) := by
  intro t ht
  refine h.tmp t fun w ow q1 q2 _ => ?_
  rcases hp.rds i o t ho ht w ow q1 q2 with x | x
  · exact hrdy w x
  · rw [hmv] at x; cases x.1

theorem mv_of_rd {o : Op} {f : T Value → S → Option Value} (h : cr P o = .rd f) : isMv o = false := by
  cases o with
  | move x =>
    simp only [cr] at h
    cases hx : opdOk x <;> rw [hx] at h <;> simp [rdNo] at h
  | _ => rfl
theorem mv_of_hd {o : Op} {f : T Value → S → OR} (h : cr P o = .hd f) : isMv o = false := by
  cases o with
  | move x =>
    simp only [cr] at h
    cases hx : opdOk x <;> rw [hx] at h <;> simp [rdNo] at h
  | _ => rfl

section
variable {fn : FuncId} {kind : KR} {ds : List Deferred} {k : List Item} {cs : List Frame} {L : List Nat}

/-- the model does one that the abstract machine has done -/
theorem pend_step (hp : PF P nt all X bs H) (h : Dr P nt all bs H hb ι s g tmps E (dnf P nt all bs H p all.size) p a) (hR : RdF P nt all bs H g s p) (hS : SRel P ι s w) {i : Nat} {o : Oper} (ho : all[i]? = some o)
    (hE : E i = false) (hrdy : ∀ j, Bf bs i j = true → E j = true) (hdn : dnf P nt all bs H p all.size i = true) :
    ∃ ι' w' v', Go.step P (lone (mkF fn kind tmps ds (.inRegion all (i :: L) :: k)) cs w) = .next (lone (mkF fn kind (pt tmps o.dst v') ds (.inRegion all L :: k)) cs w') ∧
      Dr P nt all bs H hb ι' s g (pt tmps o.dst v') (up1 E i) (dnf P nt all bs H p all.size) p a ∧ SRel P ι' s w' ∧ Fm hb ι s w ι' s w' := by
  obtain ⟨gd, q1, q2, q3, q4, q5⟩ := h.pend i o ho hdn hE
  have hsf := dnf_soft hdn
  have hhrd : ∀ k j, H[k]? = some j → (up1 E i j = true ↔ k < p) := by
    intro k j hk
    rw [← h.hrd k j hk]
    have hne : j ≠ i := by
      intro e; subst e
      obtain ⟨o', ho', hh⟩ := hp.hard' j (List.mem_of_getElem? hk)
      rw [ho] at ho'; cases ho'
      simp [soft, ho, hh] at hsf
    rw [up1_ne hne]
  have hconc : ∀ {ι' : Inj} {v' : Value}, Ext ι ι' → (∀ d, o.dst = some d → VRel ι' (ev g (.tmp d)) v') → (∀ j id, j ≠ i → E j = false → a j = some id → ι id = none → ι' id = none) →
      Dr P nt all bs H hb ι' s g (pt tmps o.dst v') (up1 E i) (dnf P nt all bs H p all.size) p a := fun hx hv hal =>
    h.conc hp ho q3 hE hrdy hx (fun _ _ => rfl) (fun _ _ => rfl) hv h.ple hhrd (fun _ => hdn) (fun j id x y z u => ⟨hal j id x y z u, rfl⟩) (Nat.le_refl _)
  -- an operation that is not wanted
  have hskip : ∀ gi, gdT gd gi = some false → DV g o.dst und → (∀ t ∈ reads o all, VRel ι (ev gi (.tmp t)) (tmps.getD t undef)) →
      ∃ ι' w' v', Go.step P (lone (mkF fn kind tmps ds (.inRegion all (i :: L) :: k)) cs w) = .next (lone (mkF fn kind (pt tmps o.dst v') ds (.inRegion all L :: k)) cs w') ∧
        Dr P nt all bs H hb ι' s g (pt tmps o.dst v') (up1 E i) (dnf P nt all bs H p all.size) p a ∧ SRel P ι' s w' ∧ Fm hb ι s w ι' s w' := by
    intro gi hg hD hr
    have hw := gd_rel' q2 q4 h.size (fun d b e => hr d (reads_gd (by rw [q2, e]))) hg
    refine ⟨ι, w, undef, st_skip ho hw, hconc (Ext.refl _) (fun d hd => by rw [hD d hd]; exact .tuple .nil) (fun _ _ _ _ _ x => x), hS, Fm.refl _ _ _ _⟩
  have hwant : ∀ gi, gdT gd gi = some true → (∀ t ∈ reads o all, VRel ι (ev gi (.tmp t)) (tmps.getD t undef)) → Region.wanted o (yielded all tmps) = true := by
    intro gi hg hr
    exact gd_rel' q2 q4 h.size (fun d b e => hr d (reads_gd (by rw [q2, e]))) hg
  have hopf : ∀ gi, (∀ t ∈ reads o all, OpF all bs ι g tmps E (dnf P nt all bs H p all.size) i gi t) → ∀ t ∈ reads o all, VRel ι (ev gi (.tmp t)) (tmps.getD t undef) := by
    intro gi hf t ht
    rcases hf t ht with ⟨x, ox, _, _, x3, x4, _⟩ | ⟨x, _⟩
    · have := hrdy x x3; rw [x4] at this; cases this
    · exact x
  have hok := cr_ok (P := P) o
  cases hcr : cr P o.op with
  | hd f => rw [hcr] at q5; exact q5.elim
  | rd f =>
    rw [hcr] at hok
    have hr := h.reads hp ho (mv_of_rd hcr) hrdy
    have hlo : lof bs H i ≤ p := by
      simp only [dnf, Bool.and_eq_true, Bool.or_eq_true, decide_eq_true_eq] at hdn; omega
    have hhi : p ≤ hiOf bs i H := by
      rcases Nat.lt_or_ge (hiOf bs i H) p with x | x
      · exfalso
        have hl : hiOf bs i H < H.length := Nat.lt_of_lt_of_le x h.ple
        have e : H[hiOf bs i H]? = some H[hiOf bs i H] := List.getElem?_eq_getElem hl
        have h1 := PF.hiOf_spec (bs := bs) (i := i) _ e
        have h2 := (h.hrd _ _ e).2 x
        have h3 := h.clo _ _ h2 h1
        rw [hE] at h3; cases h3
      · exact x
    obtain ⟨b, r1, r2, r3⟩ := hR i o f gd ho (by rw [q1, hcr]) hlo hhi
    cases b with
    | false => exact hskip g r1 (r2 rfl) hr
    | true =>
      obtain ⟨v, r4, r5⟩ := r3 rfl
      obtain ⟨v', hv, hrun⟩ := hok ι s w g (rho tmps) v r4 hS (ORho.of hr)
      exact ⟨ι, w, v', st_value ho (hwant g r1 hr) (.inl hrun), hconc (Ext.refl _) (fun d hd => by rw [r5 d hd]; exact hv) (fun _ _ _ _ _ x => x), hS, Fm.refl _ _ _ _⟩
  | pu f =>
    rw [hcr] at hok q5
    obtain ⟨gi, b, r1, r2, r3, r4⟩ := q5
    have hr := hopf gi r4
    cases b with
    | false => exact hskip gi r1 (r2 rfl) hr
    | true =>
      obtain ⟨v, r5, r6⟩ := r3 rfl
      obtain ⟨v', hv, hrun⟩ := hok ι gi (rho tmps) v r5 (ORho.of hr)
      exact ⟨ι, w, v', st_value ho (hwant gi r1 hr) (.inl (hrun w)), hconc (Ext.refl _) (fun d hd => by rw [r6 d hd]; exact hv) (fun _ _ _ _ _ x => x), hS, Fm.refl _ _ _ _⟩
  | al f =>
    rw [hcr] at hok q5
    obtain ⟨gi, b, r1, r2, r3, r4⟩ := q5
    have hr := hopf gi r4
    cases b with
    | false => exact hskip gi r1 (r2 rfl) hr
    | true =>
      obtain ⟨ob, mk, id, y1, y2, y3, y4, y5, y6⟩ := r3 rfl
      obtain ⟨hpar, hall⟩ := hok ι gi (rho tmps) ob mk y1 (ORho.of hr)
      obtain ⟨top, o', w', v', hpush, hrun, hrel⟩ := hall w
      have hx := Ext.up ⟨w.heap.size, 0, top⟩ y5
      obtain ⟨z1, z2⟩ := hrel _ id hx (Inj.up_self _ _ _)
      refine ⟨_, w', v', st_value ho (hwant gi r1 hr) (.inl hrun), hconc hx (fun d hd => by rw [y2 d hd]; exact z2) ?_, hS.adopt y5 y6 (h.alt i id y3) hpar hpush z1, Fm.adopt hS y5 y4 hpush⟩
      intro j id' hj _ haj hn
      rw [Inj.up_ne _ _ (fun e => hj (h.inj j i id (by rw [← e]; exact haj) y3))]; exact hn

theorem Lin.ready (hp : PF P nt all X bs H) (h : Dr P nt all bs H hb ι s g tmps E dn p a) {i : Nat} {o : Oper} (ho : all[i]? = some o) (hl : ∀ e ∈ o.after.toList, Region.binds .any e = true → E e.on = true) (hx : ∀ m ∈ X i, E m = true) :
    ∀ j, Bf bs i j = true → E j = true := by
  intro j hj
  rcases hp.bef i o j ho hj with ⟨e, x1, x2, x3⟩ | ⟨m, x1, x3⟩
  · have := hl e x1 x2
    rcases x3 with rfl | x3
    · exact this
    · exact h.clo _ _ this x3
  · have := hx m x1
    rcases x3 with rfl | x3
    · exact this
    · exact h.clo _ _ this x3

/-- the model goes on as far as the next hard one -/
theorem run_soft (hp : PF P nt all X bs H) (hR : RdF P nt all bs H g s p) : ∀ (L : List Nat) (E : Nat → Bool) (ι : Inj) (w : World) (tmps : Array Value), Lin all X L E →
    Dr P nt all bs H hb ι s g tmps E (dnf P nt all bs H p all.size) p a → SRel P ι s w →
    (∃ ι' w' tmps', H[p]? = none ∧ Steps P (lone (mkF fn kind tmps ds (.inRegion all L :: k)) cs w) (lone (mkF fn kind tmps' ds k) cs w') ∧ TmpRel ι' g tmps' ∧ tmps'.size = nt ∧ SRel P ι' s w' ∧ Fm hb ι s w ι' s w') ∨
    (∃ ι' w' tmps' E' i L' o, H[p]? = some i ∧ all[i]? = some o ∧ Lin all X (i :: L') E' ∧ (∀ j, Bf bs i j = true → E' j = true) ∧ E' i = false ∧ Lin all X L' (up1 E' i) ∧
      Steps P (lone (mkF fn kind tmps ds (.inRegion all L :: k)) cs w) (lone (mkF fn kind tmps' ds (.inRegion all (i :: L') :: k)) cs w') ∧
      Dr P nt all bs H hb ι' s g tmps' E' (dnf P nt all bs H p all.size) p a ∧ SRel P ι' s w' ∧ Fm hb ι s w ι' s w') := by
  intro L
  induction L with
  | nil =>
    intro E ι w tmps hl h hS
    cases hl with
    | nil hall =>
      have hnone : H[p]? = none := by
        cases hp2 : H[p]? with
        | none => rfl
        | some i =>
          exfalso
          obtain ⟨o, ho, _⟩ := hp.hard' i (List.mem_of_getElem? hp2)
          have hil : i < all.size := by
            rcases Nat.lt_or_ge i all.size with x | x
            · exact x
            · rw [Array.getElem?_eq_none x] at ho; cases ho
          have := (h.hrd p i hp2).1 (hall i hil)
          omega
      refine .inl ⟨ι, w, tmps, hnone, .one (stepR_region_end (b := Go.AM.bs fn kind) (a := ⟨tmps, ds⟩)), ?_, h.size, hS, Fm.refl _ _ _ _⟩
      intro t
      refine h.tmp t fun i o ho _ _ => hall i ?_
      rcases Nat.lt_or_ge i all.size with x | x
      · exact x
      · rw [Array.getElem?_eq_none x] at ho; cases ho
  | cons i L ih =>
    intro E ι w tmps hl h hS
    have hl0 := hl
    cases hl with
    | cons ho hE hedge hX hrest =>
      rename_i o
      have hrdy := Lin.ready hp h ho hedge hX
      cases hs : soft P nt all i with
      | true =>
        have hle : lof bs H i ≤ p := by
          rcases Nat.lt_or_ge p (lof bs H i) with x | x
          · exfalso
            have hlt : p < H.length := Nat.lt_of_lt_of_le x (PF.loOf_le _ _)
            have e : H[p]? = some H[p] := List.getElem?_eq_getElem hlt
            have h1 := (hp.loOf_spec (i := i) e).1 x
            have h2 := (h.hrd _ _ e).1 (hrdy _ h1)
            omega
          · exact x
        have hil : i < all.size := by
          rcases Nat.lt_or_ge i all.size with x | x
          · exact x
          · rw [Array.getElem?_eq_none x] at ho; cases ho
        have hdn : dnf P nt all bs H p all.size i = true := by
          simp only [dnf, hs, Bool.true_and, Bool.or_eq_true, Bool.and_eq_true, decide_eq_true_eq]; omega
        obtain ⟨ι', w', v', h1, h2, h3, h4⟩ := pend_step (fn := fn) (kind := kind) (ds := ds) (k := k) (cs := cs) (L := L) hp h hR hS ho hE hrdy hdn
        rcases ih _ ι' w' _ hrest h2 h3 with ⟨ι2, w2, t2, a0, a1, a2, a3, a4, a5⟩ | ⟨ι2, w2, t2, E2, i2, L2, o2, a1, a2, a3, a4, a5, a6, a7, a8, a9, a10⟩
        · exact .inl ⟨ι2, w2, t2, a0, .head h1 a1, a2, a3, a4, h4.trans a5⟩
        · exact .inr ⟨ι2, w2, t2, E2, i2, L2, o2, a1, a2, a3, a4, a5, a6, .head h1 a7, a8, a9, h4.trans a10⟩
      | false =>
        have hh : isHd (mkCl P nt all o).r = true := by
          simp only [soft, ho] at hs
          simpa using hs
        have hm := hp.hard i o ho hh
        obtain ⟨kk, hk, hk2⟩ := List.getElem_of_mem hm
        have e : H[kk]? = some i := by rw [List.getElem?_eq_getElem hk, hk2]
        have hnk : ¬ kk < p := fun x => by rw [(h.hrd kk i e).2 x] at hE; cases hE
        have hkp : kk = p := by
          rcases Nat.lt_or_ge p kk with x | x
          · exfalso
            have e2 : H[p]? = some (H[p]'(by omega)) := List.getElem?_eq_getElem (by omega)
            have h1 := hp.chain_lt x e2 e
            have h2 := (h.hrd _ _ e2).1 (hrdy _ h1)
            omega
          · omega
        subst hkp
        exact .inr ⟨ι, w, tmps, E, i, L, o, e, ho, hl0, hrdy, hE, hrest, .refl _ _, h, hS, Fm.refl _ _ _ _⟩
end
end
end Go.AM
/- Regions that draw: a whole run. -/
namespace Go.AM
noncomputable section
variable {P : Program}

/-- the hard ones from the p-th on -/
def hsFrom (P : Program) (nt : Nat) (all : Array Oper) (H : List Nat) (p : Nat) : List Cl := pick (mkCls P nt all all.toList) (H.drop p)

variable {nt : Nat} {all : Array Oper} {X : Nat → List Nat} {bs H : List Nat} {hb : Nat} {ι : Inj} {s : S} {g : T Value} {tmps : Array Value} {E : Nat → Bool} {p : Nat} {a : Nat → Option Nat} {w : World}

theorem hsFrom_cons {i : Nat} {o : Oper} (h : H[p]? = some i) (ho : all[i]? = some o) : hsFrom P nt all H p = mkCl P nt all o :: hsFrom P nt all H (p + 1) := by
  have hlt : p < H.length := by
    rcases Nat.lt_or_ge p H.length with x | x
    · exact x
    · rw [List.getElem?_eq_none x] at h; cases h
  unfold hsFrom
  rw [List.drop_eq_getElem_cons hlt]
  rw [List.getElem?_eq_getElem hlt] at h
  simp only [Option.some.injEq] at h
  rw [h]
  have : (mkCls P nt all all.toList)[i]? = some (mkCl P nt all o) := by
    rw [mkCls_drop, List.getElem?_map, Array.getElem?_toList, ho]; rfl
  simp only [pick, this]
theorem hsFrom_nil (h : H.length ≤ p) : hsFrom P nt all H p = [] := by
  unfold hsFrom; rw [List.drop_eq_nil_of_le h]; rfl

theorem dnf_next : dnf P nt all bs H p all.size = dnf P nt all bs H (p + 1) 0 := by
  funext i
  simp only [dnf]
  cases hs : soft P nt all i with
  | false => rfl
  | true =>
    obtain ⟨o, ho, _⟩ := soft_some hs
    have hil : i < all.size := by
      rcases Nat.lt_or_ge i all.size with x | x
      · exact x
      · rw [Array.getElem?_eq_none x] at ho; cases ho
    have : (decide (lof bs H i < p) || (decide (lof bs H i = p) && decide (i < all.size))) = (decide (lof bs H i < p + 1) || (decide (lof bs H i = p + 1) && decide (i < 0))) := by
      rw [Bool.eq_iff_iff]
      simp only [Bool.or_eq_true, Bool.and_eq_true, decide_eq_true_eq]
      omega
    rw [this]

/-- before the p-th phase -/
def Before (P : Program) (nt : Nat) (all : Array Oper) (hb : Nat) (ι : Inj) (s : S) (g : T Value) (tmps : Array Value) (ops : List Dop) (p : Nat) (hs : List Cl) (L : List Nat) : Prop :=
  ∃ X bs H E a, PF P nt all X bs H ∧ ops = dopsFrom P nt all bs H 0 ∧ hs = hsFrom P nt all H p ∧ Lin all X L E ∧ Dr P nt all bs H hb ι s g tmps E (dnf P nt all bs H p 0) p a
/-- behind it, where a hard one is under way -/
def Within (P : Program) (nt : Nat) (all : Array Oper) (hb : Nat) (ι : Inj) (s : S) (g : T Value) (tmps : Array Value) (ops : List Dop) (p : Nat) (hs : List Cl) (i : Nat) (L : List Nat) (o : Oper) : Prop :=
  ∃ X bs H E a gd, PF P nt all X bs H ∧ ops = dopsFrom P nt all bs H 0 ∧ hs = ⟨cr P o.op, o.dst, gd⟩ :: hsFrom P nt all H (p + 1) ∧ H[p]? = some i ∧ all[i]? = some o ∧ dstOk nt o.dst = true ∧
    isHd (cr P o.op) = true ∧ (∀ j, Bf bs i j = true → E j = true) ∧ E i = false ∧ Lin all X L (up1 E i) ∧ Dr P nt all bs H hb ι s g tmps E (dnf P nt all bs H p all.size) p a

/-- what becomes of it with time -/
structure Fut (hb : Nat) (ι : Inj) (s : S) (ι' : Inj) (s' : S) : Prop where
  ext : Ext ι ι'
  keep : ∀ id, id < hb → ι id = none → ι' id = none ∧ s'.h.get id = s.h.get id
  nx : s.nx ≤ s'.nx
theorem Fut.refl (hb : Nat) (ι : Inj) (s : S) : Fut hb ι s ι s := ⟨Ext.refl _, fun _ _ h => ⟨h, rfl⟩, Nat.le_refl _⟩
theorem Fm.fut {hb : Nat} {ι ι' : Inj} {s s' : S} {w w' : World} (h : Fm hb ι s w ι' s' w') : Fut hb ι s ι' s' := ⟨h.ext, h.keep, h.nx⟩
theorem Fut.trans {hb : Nat} {ι ι' ι'' : Inj} {s s' s'' : S} (h : Fut hb ι s ι' s') (k : Fut hb ι' s' ι'' s'') : Fut hb ι s ι'' s'' :=
  ⟨h.ext.trans k.ext, fun id hi hn => let x := h.keep id hi hn; let y := k.keep id hi x.1; ⟨y.1, y.2.trans x.2⟩, Nat.le_trans h.nx k.nx⟩
theorem Fut.weaken {hb hb' : Nat} {ι ι' : Inj} {s s' : S} (h : Fut hb ι s ι' s') (hle : hb' ≤ hb) : Fut hb' ι s ι' s' := ⟨h.ext, fun id hi hn => h.keep id (Nat.lt_of_lt_of_le hi hle) hn, h.nx⟩

theorem hdNotSoft {nt : Nat} {all : Array Oper} {i : Nat} {o : Oper} {gd : Gd} (ho : all[i]? = some o) (hc : mkCl P nt all o = ⟨cr P o.op, o.dst, gd⟩) (hh : isHd (cr P o.op) = true) : soft P nt all i = false := by
  simp [soft, ho, hc, hh]

theorem mkCl_hd {nt : Nat} {all : Array Oper} {o : Oper} (hh : isHd (mkCl P nt all o).r = true) :
    ∃ gd, mkCl P nt all o = ⟨cr P o.op, o.dst, gd⟩ ∧ mkGd all o.guard = some gd ∧ dstOk nt o.dst = true ∧ gdOk nt gd = true ∧ isHd (cr P o.op) = true := by
  rcases mkCl_cases (P := P) nt all o with hc | ⟨gd, hc, hm, hd, hg⟩
  · rw [hc] at hh; simp [isHd, rdNo] at hh
  · exact ⟨gd, hc, hm, hd, hg, by rw [hc] at hh; exact hh⟩

/-- the hard one is done -/
theorem Dr.hard (hp : PF P nt all X bs H) (h : Dr P nt all bs H hb ι s g tmps E (dnf P nt all bs H p all.size) p a) {i : Nat} {o : Oper} (hi : H[p]? = some i) (ho : all[i]? = some o) (hd : dstOk nt o.dst = true)
    (hns : soft P nt all i = false) (hrdy : ∀ j, Bf bs i j = true → E j = true) (hE : E i = false) {ι' : Inj} {s' : S} (hF : Fut s.nx ι s ι' s') {v v' : Value} (hv : VRel ι' v v') :
    Dr P nt all bs H hb ι' s' (putD g o.dst v) (pt tmps o.dst v') (up1 E i) (dnf P nt all bs H (p + 1) 0) (p + 1) a := by
  rw [← dnf_next]
  have hpl : p < H.length := by
    rcases Nat.lt_or_ge p H.length with x | x
    · exact x
    · rw [List.getElem?_eq_none x] at hi; cases hi
  have hndn : dnf P nt all bs H p all.size i ≠ true := fun x => by rw [dnf_soft x] at hns; cases hns
  refine h.conc hp ho hd hE hrdy hF.ext (fun t ht => ev_putD_ne ht) (fun x => absurd x hndn) (fun d hdd => by rw [ev_putD_eq d hdd]; exact hv) (by omega) ?_ (fun x => by rw [hns] at x; cases x) ?_ hF.nx
  · intro kk j hk
    by_cases e : j = i
    · subst e
      rw [up1_self]
      have : kk = p := by
        rcases Nat.lt_trichotomy kk p with x | x | x
        · have := hp.chain_lt x hk hi; rw [hp.irr] at this; cases this
        · exact x
        · have := hp.chain_lt x hi hk; rw [hp.irr] at this; cases this
      simp [this]
    · rw [up1_ne e, h.hrd kk j hk]
      have : kk ≠ p := fun x => by subst x; rw [hi] at hk; cases hk; exact e rfl
      omega
  · intro j id _ _ haj hn
    exact hF.keep id (h.alt j id haj) hn

/-- a hard one that is under way is answered -/
theorem Within.finish {ops : List Dop} {hs : List Cl} {i : Nat} {L : List Nat} {o : Oper} (h : Within P nt all hb ι s g tmps ops p hs i L o) {ι' : Inj} {s' : S} (hF : Fut s.nx ι s ι' s') {v v' : Value} (hv : VRel ι' v v') :
    ∃ c hs', hs = c :: hs' ∧ c.dst = o.dst ∧ Before P nt all hb ι' s' (putD g o.dst v) (pt tmps o.dst v') ops (p + 1) hs' L := by
  obtain ⟨X, bs, H, E, a, gd, hp, h1, h2, h3, h4, h5, h6, h7, h8, h9, h10⟩ := h
  refine ⟨_, _, h2, rfl, X, bs, H, up1 E i, a, hp, h1, rfl, h9, ?_⟩
  refine h10.hard hp h3 h4 h5 ?_ h7 h8 hF hv
  obtain ⟨o', ho', hh⟩ := hp.hard' i (List.mem_of_getElem? h3)
  rw [h4] at ho'; cases ho'
  simp [soft, h4, hh]

theorem clearD_get {nt : Nat} {all : Array Oper} {bs H : List Nat} : ∀ (n j : Nat), j + n = all.size → ∀ (g : T Value) (t : Tmp), 
    ev (clearD (dopsFrom P nt all bs H j) g) (.tmp t) = ev g (.tmp t) ∨ ev (clearD (dopsFrom P nt all bs H j) g) (.tmp t) = poi
  | 0, j, hj, g, t => by rw [dopsFrom_nil (by omega)]; exact .inl rfl
  | n + 1, j, hj, g, t => by
    have ho' : all[j]? = some (all[j]'(by omega)) := Array.getElem?_eq_getElem (by omega)
    generalize all[j]'(by omega) = o1 at ho'
    rw [dopsFrom_cons ho']
    simp only [clearD]
    rcases clearD_get n (j + 1) (by omega : j + 1 + n = all.size) (putD g (mkCl P nt all o1).dst poi) t with x | x
    · rw [x]
      by_cases e : (mkCl P nt all o1).dst = some t
      · exact .inr (ev_putD_eq t e)
      · exact .inl (ev_putD_ne e)
    · exact .inr x
theorem clearD_poi {nt : Nat} {all : Array Oper} {bs H : List Nat} : ∀ (n j : Nat), j + n = all.size → ∀ (g : T Value) (t : Tmp), (∃ i o, j ≤ i ∧ all[i]? = some o ∧ (mkCl P nt all o).dst = some t) →
    ev (clearD (dopsFrom P nt all bs H j) g) (.tmp t) = poi
  | 0, j, hj, g, t, ⟨i, o, h1, h2, _⟩ => by rw [Array.getElem?_eq_none (by omega)] at h2; cases h2
  | n + 1, j, hj, g, t, ⟨i, o, h1, h2, h3⟩ => by
    have ho' : all[j]? = some (all[j]'(by omega)) := Array.getElem?_eq_getElem (by omega)
    generalize all[j]'(by omega) = o1 at ho'
    rw [dopsFrom_cons ho']
    simp only [clearD]
    by_cases e : i = j
    · subst e
      rw [ho'] at h2; cases h2
      rcases clearD_get (P := P) (nt := nt) (all := all) (bs := bs) (H := H) n (i + 1) (by omega) (putD g (mkCl P nt all o).dst poi) t with x | x
      · rw [x]; exact ev_putD_eq t h3
      · exact x
    · exact clearD_poi n (j + 1) (by omega) _ t ⟨i, o, by omega, h2, h3⟩

/-- a region that is left -/
theorem Within.clear {ops : List Dop} {hs : List Cl} {i : Nat} {L : List Nat} {o : Oper} (h : Within P nt all hb ι s g tmps ops p hs i L o) : TmpRel ι (clearD ops g) tmps := by
  obtain ⟨X, bs, H, E, a, gd, hp, h1, h2, h3, h4, h5, h6, h7, h8, h9, h10⟩ := h
  subst h1
  intro t
  rcases clearD_get (P := P) (nt := nt) (all := all) (bs := bs) (H := H) all.size 0 (by omega) g t with x | x
  · by_cases e : ∃ (j : Nat) (oj : Oper), all[j]? = some oj ∧ oj.dst = some t ∧ dnf P nt all bs H p all.size j = true ∧ E j = false
    · obtain ⟨j, oj, q1, q2, q3, q4⟩ := e
      obtain ⟨gd', r1, _⟩ := h10.pend j oj q1 q3 q4
      rw [clearD_poi all.size 0 (by omega) g t ⟨j, oj, Nat.zero_le _, q1, by rw [r1]; exact q2⟩]
      exact .poi _
    · rw [x]
      refine h10.tmp t fun j oj q1 q2 q3 => ?_
      cases hE : E j with
      | true => rfl
      | false => exact absurd ⟨j, oj, q1, q2, q3, hE⟩ e
  · rw [x]; exact .poi _

def DrawPost (P : Program) (hb : Nat) (fn : FuncId) (kind : KR) (ds : List Deferred) (all : Array Oper) (nt : Nat) (ops : List Dop) (k : List Item) (cs : List Frame) (ι : Inj) (s : S) (w : World) (m : Machine) : DR → Prop
  | .fin g' s' => ∃ ι' w' tmps', OpsRun P hb fn kind ds all nt k cs ι s w m g' s' ι' w' tmps' k
  | .at_ p' hs' g' s' r => ∃ ι' w' tmps' i L o, Steps P m (lone (mkF fn kind tmps' ds (.inRegion all (i :: L) :: k)) cs w') ∧ SRel P ι' s' w' ∧ Fm hb ι s w ι' s' w' ∧ tmps'.size = nt ∧
      Within P nt all hb ι' s' g' tmps' ops p' hs' i L o ∧ AtOp P ι' s' w' all tmps' i o r
  | .bad _ => True

theorem DrawPost.of_steps {fn : FuncId} {kind : KR} {ds : List Deferred} {ops : List Dop} {k : List Item} {cs : List Frame} {ι1 : Inj} {s1 : S} {w1 : World} {m m1 : Machine} {r : DR}
    (h : Steps P m m1) (f : Fm hb ι s w ι1 s1 w1) (k' : DrawPost P hb fn kind ds all nt ops k cs ι1 s1 w1 m1 r) : DrawPost P hb fn kind ds all nt ops k cs ι s w m r := by
  cases r with
  | fin g s => obtain ⟨a, b, c, d⟩ := k'; exact ⟨a, b, c, h.trans d.steps, d.tmps, d.size, d.srel, f.trans d.fm⟩
  | at_ p l g s r => obtain ⟨a, b, c, i, L, o, d1, d2, d3, d4, d5, d6⟩ := k'; exact ⟨a, b, c, i, L, o, h.trans d1, d2, f.trans d3, d4, d5, d6⟩
  | bad => trivial

theorem sim_draw {fn : FuncId} {kind : KR} {ds : List Deferred} {k : List Item} {cs : List Frame} {ops : List Dop} :
    ∀ (hs : List Cl) (p : Nat) (g : T Value) (s : S) (ι : Inj) (w : World) (tmps : Array Value) (L : List Nat), Before P nt all hb ι s g tmps ops p hs L → SRel P ι s w → hb ≤ s.nx → s.lo ≤ s.nx →
      DrawPost P hb fn kind ds all nt ops k cs ι s w (lone (mkF fn kind tmps ds (.inRegion all L :: k)) cs w) (runDraw ops p hs g s) := by
  intro hs
  induction hs with
  | nil =>
    intro p g s ι w tmps L hB hS hhb hlo
    obtain ⟨X, bs, H, E, a, hp, h1, h2, h3, h4⟩ := hB
    simp only [runDraw]
    unfold phase
    cases hph : ph1 p ops g s with
    | none => trivial
    | some gs =>
      obtain ⟨g', s'⟩ := gs
      simp only []
      cases hph2 : ph2 p ops g' s' with
      | false => trivial
      | true =>
        simp only [cond_true]
        rw [h1] at hph hph2
        obtain ⟨a', r1, r2, r3⟩ := ph1_ok (p := p) hp all.size 0 (by omega) g s a h4 hS hhb hlo g' s' hph
        have hR : RdF P nt all bs H g' s' p := fun i o f gd x y z u => ph2_ok all.size 0 (by omega) hph2 i o f gd (Nat.zero_le _) x y z u
        have hlen : H.length ≤ p := by
          rcases Nat.lt_or_ge p H.length with x | x
          · exfalso
            have e : H[p]? = some H[p] := List.getElem?_eq_getElem x
            obtain ⟨o, ho, _⟩ := hp.hard' _ (List.mem_of_getElem? e)
            rw [hsFrom_cons e ho] at h2; cases h2
          · exact x
        rcases run_soft (fn := fn) (kind := kind) (ds := ds) (k := k) (cs := cs) hp hR L E ι w tmps h3 r1 r2 with ⟨ι2, w2, t2, a0, a1, a2, a3, a4, a5⟩ | ⟨ι2, w2, t2, E2, i2, L2, o2, a1, _⟩
        · exact ⟨ι2, w2, t2, a1, a2, a3, a4, (r3 hb hhb).trans a5⟩
        · rw [List.getElem?_eq_none hlen] at a1; cases a1
  | cons c hs ih =>
    intro p g s ι w tmps L hB hS hhb hlo
    obtain ⟨X, bs, H, E, a, hp, h1, h2, h3, h4⟩ := hB
    obtain ⟨r, dst, gd⟩ := c
    simp only [runDraw]
    unfold phase
    cases hph : ph1 p ops g s with
    | none => trivial
    | some gs =>
      obtain ⟨g', s'⟩ := gs
      simp only []
      cases hph2 : ph2 p ops g' s' with
      | false => trivial
      | true =>
        simp only [cond_true]
        rw [h1] at hph hph2
        obtain ⟨a', r1, r2, r3⟩ := ph1_ok (p := p) hp all.size 0 (by omega) g s a h4 hS hhb hlo g' s' hph
        have hR : RdF P nt all bs H g' s' p := fun i o f gd x y z u => ph2_ok all.size 0 (by omega) hph2 i o f gd (Nat.zero_le _) x y z u
        have hlt : p < H.length := by
          rcases Nat.lt_or_ge p H.length with x | x
          · exact x
          · rw [hsFrom_nil x] at h2; cases h2
        have hF0 := r3 hb hhb
        have hnx' := hF0.nx
        have hlo' := hF0.lo
        rcases run_soft (fn := fn) (kind := kind) (ds := ds) (k := k) (cs := cs) hp hR L E ι w tmps h3 r1 r2 with ⟨ι2, w2, t2, a0, a1, a2, a3, a4, a5⟩ | ⟨ι2, w2, t2, E2, i, L2, o, a1, a2, a3, a4, a5, a6, a7, a8, a9, a10⟩
        · -- it has come to its end, though a hard one is left
          rw [List.getElem?_eq_getElem hlt] at a0; cases a0
        · obtain ⟨o', ho', hh⟩ := hp.hard' i (List.mem_of_getElem? a1)
          rw [a2] at ho'; cases ho'
          obtain ⟨gd', q1, q2, q3, q4, q5⟩ := mkCl_hd hh
          rw [hsFrom_cons a1 a2, q1] at h2
          simp only [List.cons.injEq, Cl.mk.injEq] at h2
          obtain ⟨⟨rfl, rfl, rfl⟩, h2⟩ := h2
          have hns := hdNotSoft a2 q1 q5
          obtain ⟨f, hf⟩ : ∃ f, cr P o.op = .hd f := by
            cases hc : cr P o.op with
            | hd f => exact ⟨f, rfl⟩
            | _ => rw [hc] at q5; simp [isHd] at q5
          have hrd := a8.reads hp a2 (mv_of_hd hf) a4
          cases hgt : gdT gd g' with
          | none => trivial
          | some b =>
            have hw := gd_rel' q2 q4 a8.size (fun d b e => hrd d (reads_gd (by rw [q2, e]))) hgt
            cases b with
            | false =>
              simp only []
              refine .of_steps (a7.trans (.one (st_skip a2 hw))) (hF0.trans a10) ?_
              have hx := a10.nx
              have hy := a10.lo
              refine ih (p + 1) _ _ _ _ _ L2 ⟨X, bs, H, up1 E2 i, a', hp, h1, h2, a6, ?_⟩ a9 (by omega) (by omega)
              exact a8.hard hp a1 a2 q3 hns a4 a5 (Fut.refl _ _ _) (.tuple .nil)
            | true =>
              rw [hf]
              simp only []
              have hok := cr_ok (P := P) o
              rw [hf] at hok
              have hx := a10.nx
              have hy := a10.lo
              by_cases hval : ∃ v s1, f g' s' = .val v s1
              · obtain ⟨v, s1, hfv⟩ := hval
                rw [hfv]
                simp only []
                have hpost := hok s'.nx ι2 s' w2 g' (rho t2) a9 (Nat.le_refl _) (by omega) (ORho.of hrd)
                rw [hfv] at hpost
                obtain ⟨ι3, w3, v', hrun, hv, hS3, hF3⟩ := hpost
                refine .of_steps (a7.trans (.one (st_value a2 hw hrun))) ((hF0.trans a10).trans (hF3.weaken (by omega))) ?_
                have := hF3.nx
                have := hF3.lo
                refine ih (p + 1) _ _ _ _ _ L2 ⟨X, bs, H, up1 E2 i, a', hp, h1, h2, a6, ?_⟩ hS3 (by omega) (by omega)
                exact a8.hard hp a1 a2 q3 hns a4 a5 hF3.fut hv
              · have hnv : ∀ v s1, f g' s' ≠ .val v s1 := fun v s1 h => hval ⟨v, s1, h⟩
                have fin : DrawPost P hb fn kind ds all nt ops k cs ι s w (lone (mkF fn kind tmps ds (.inRegion all L :: k)) cs w) (.at_ p (⟨.hd f, o.dst, gd⟩ :: hs) g' s' (f g' s')) := by
                  refine ⟨ι2, w2, t2, i, L2, o, a7, a9, hF0.trans a10, a8.size, ⟨X, bs, H, E2, a', gd, hp, h1, by rw [hf, ← h2], a1, a2, q3, q5, a4, a5, a6, a8⟩, a2, hw, ?_, hnv⟩
                  intro hb' hle
                  exact hok hb' ι2 s' w2 g' (rho t2) a9 hle (by omega) (ORho.of hrd)
                cases hr : f g' s' with
                | val v s1 => exact absurd hr (hnv _ _)
                | _ => rw [hr] at fin; exact fin

end
end Go.AM
/- Frames side by side. -/
namespace Go.AM
noncomputable section
variable {P : Program}

inductive ItRel (P : Program) (nt : Nat) (ι : Inj) : AItem → Item → Prop
  | code (c : Code) : ItRel P nt ι (.code c) (.code c)
  | inBlock (id : Nat) : ItRel P nt ι (.inBlock id) (.inBlock id)
  | inLoop (c : Code) : ItRel P nt ι (.inLoop c) (.inLoop c)
  | inScope (c : Code) : ItRel P nt ι (.inScope c) (.inScope c)
  | ops (all : Array Oper) (j : Nat) : j ≤ all.size → ItRel P nt ι (.ops all (mkCls P nt all (all.toList.drop j))) (.inRegion all (List.range' j (all.size - j)))
  | inRF {l : Nat} {b : Loc} : ι l = some b → ItRel P nt ι (.inRF l) (.inRangeFunc b.blk)
  | endRF {l : Nat} {b : Loc} : ι l = some b → ItRel P nt ι (.endRF l) (.endRangeFunc b.blk)
  | beginRound : ItRel P nt ι .beginRound .beginRound
theorem ItRel.mono {nt : Nat} {ι ι' : Inj} (h : Ext ι ι') {a : AItem} {b : Item} (r : ItRel P nt ι a b) : ItRel P nt ι' a b := by
  cases r with
  | code c => exact .code c
  | inBlock c => exact .inBlock c
  | inLoop c => exact .inLoop c
  | inScope c => exact .inScope c
  | ops a j h => exact .ops a j h
  | inRF x => exact .inRF (h _ _ x)
  | endRF x => exact .endRF (h _ _ x)
  | beginRound => exact .beginRound

inductive ItsRel (P : Program) (nt : Nat) (ι : Inj) (K : List Item) : List AItem → List Item → Prop
  | nil : ItsRel P nt ι K [] K
  | cons {a : AItem} {b : Item} {l : List AItem} {l' : List Item} : ItRel P nt ι a b → ItsRel P nt ι K l l' → ItsRel P nt ι K (a :: l) (b :: l')
theorem ItsRel.mono {nt : Nat} {ι ι' : Inj} {K : List Item} (h : Ext ι ι') : ∀ {a : List AItem} {b : List Item}, ItsRel P nt ι K a b → ItsRel P nt ι' K a b
  | _, _, .nil => .nil
  | _, _, .cons x y => .cons (x.mono h) (y.mono h)

theorem exit_rel {nt : Nat} {ι : Inj} {K : List Item} {id : Nat} : ∀ {a : List AItem} {b : List Item}, ItsRel P nt ι K a b → ∀ a', exitA id a = some a' → ∃ b', exitTo id b = some b' ∧ ItsRel P nt ι K a' b'
  | _, _, .nil, a', h => by simp [exitA] at h
  | _, _, .cons x y, a', h => by
    cases x with
    | inBlock i =>
      simp only [exitA] at h
      cases hb : Nat.beq i id with
      | true =>
        rw [hb] at h; simp only [cond_true, Option.some.injEq] at h; subst h
        have := Nat.eq_of_beq_eq_true hb
        exact ⟨_, by simp [exitTo, this], y⟩
      | false =>
        rw [hb] at h; simp only [cond_false] at h
        obtain ⟨b', h1, h2⟩ := exit_rel y a' h
        have hne : (i == id) = false := by
          cases hh : (i == id) with
          | false => rfl
          | true => rw [beq_iff_eq.1 hh, Nat.beq_refl] at hb; cases hb
        exact ⟨b', by simp [exitTo, hne, h1], h2⟩
    | code c => obtain ⟨b', h1, h2⟩ := exit_rel y a' (by simpa [exitA] using h); exact ⟨b', by simp [exitTo, h1], h2⟩
    | inLoop c => obtain ⟨b', h1, h2⟩ := exit_rel y a' (by simpa [exitA] using h); exact ⟨b', by simp [exitTo, h1], h2⟩
    | inScope c => obtain ⟨b', h1, h2⟩ := exit_rel y a' (by simpa [exitA] using h); exact ⟨b', by simp [exitTo, h1], h2⟩
    | ops a j hj => obtain ⟨b', h1, h2⟩ := exit_rel y a' (by simpa [exitA] using h); exact ⟨b', by simp [exitTo, h1], h2⟩
    | inRF e => obtain ⟨b', h1, h2⟩ := exit_rel y a' (by simpa [exitA] using h); exact ⟨b', by simp [exitTo, h1], h2⟩
    | endRF e => obtain ⟨b', h1, h2⟩ := exit_rel y a' (by simpa [exitA] using h); exact ⟨b', by simp [exitTo, h1], h2⟩
    | beginRound => obtain ⟨b', h1, h2⟩ := exit_rel y a' (by simpa [exitA] using h); exact ⟨b', by simp [exitTo, h1], h2⟩

theorem exit_none {nt : Nat} {ι : Inj} {id : Nat} : ∀ {a : List AItem} {b : List Item}, ItsRel P nt ι [] a b → exitA id a = none → exitTo id b = none
  | _, _, .nil, _ => rfl
  | _, _, .cons x y, h => by
    cases x with
    | inBlock i =>
      simp only [exitA] at h
      cases hb : Nat.beq i id with
      | true => rw [hb] at h; cases h
      | false =>
        rw [hb] at h; simp only [cond_false] at h
        have hne : (i == id) = false := by
          cases hh : (i == id) with
          | false => rfl
          | true => rw [beq_iff_eq.1 hh, Nat.beq_refl] at hb; cases hb
        simp [exitTo, hne, exit_none y h]
    | code c => simp [exitTo, exit_none y (by simpa [exitA] using h)]
    | inLoop c => simp [exitTo, exit_none y (by simpa [exitA] using h)]
    | inScope c => simp [exitTo, exit_none y (by simpa [exitA] using h)]
    | ops a j hj => simp [exitTo, exit_none y (by simpa [exitA] using h)]
    | inRF e => simp [exitTo, exit_none y (by simpa [exitA] using h)]
    | endRF e => simp [exitTo, exit_none y (by simpa [exitA] using h)]
    | beginRound => simp [exitTo, exit_none y (by simpa [exitA] using h)]

/-- whose round it is -/
inductive RndRel (ι : Inj) : Option Nat → Option Nat → Prop
  | none : RndRel ι .none .none
  | some {l : Nat} {b : Loc} : ι l = .some b → RndRel ι (.some l) (.some b.blk)
theorem RndRel.mono {ι ι' : Inj} (h : Ext ι ι') {a b : Option Nat} (r : RndRel ι a b) : RndRel ι' a b := by
  cases r with
  | none => exact .none
  | some x => exact .some (h _ _ x)
theorem RndRel.isNone {ι : Inj} {b : Option Nat} (r : RndRel ι Option.none b) : b = Option.none := by cases r; rfl

inductive Body (P : Program) (ι : Inj) (s : S) (hb nt : Nat) (K : List Item) (g : T Value) (tmps : Array Value) : List AItem → List Item → Prop
  | plain {todo : List AItem} {todo' : List Item} : TmpRel ι g tmps → ItsRel P nt ι K todo todo' → Body P ι s hb nt K g tmps todo todo'
  | draw {all : Array Oper} {ops : List Dop} {p : Nat} {hs : List Cl} {L : List Nat} {k : List AItem} {k' : List Item} : Before P nt all hb ι s g tmps ops p hs L → ItsRel P nt ι K k k' →
      Body P ι s hb nt K g tmps (.draw all ops p hs :: k) (.inRegion all L :: k')

/-- what lies under the lowest frame -/
structure Suf where
  K : List Item
  D : List Deferred
  kd : Option Bool
  me : Option (FuncId × Nat × CallKind)

inductive DefsTo (ι : Inj) (D : List Deferred) : List ADef → List Deferred → Prop
  | nil : DefsTo ι D [] D
  | cons {d : ADef} {d' : Deferred} {l : List ADef} {l' : List Deferred} : DefRel ι d d' → DefsTo ι D l l' → DefsTo ι D (d :: l) (d' :: l')
theorem DefsTo.mono {ι ι' : Inj} {D : List Deferred} (h : Ext ι ι') : ∀ {d : List ADef} {d' : List Deferred}, DefsTo ι D d d' → DefsTo ι' D d d'
  | _, _, .nil => .nil
  | _, _, .cons a b => .cons (a.mono h) (b.mono h)

def kindOf (d : Bool) : CallKind := if d then .deferred else .normal

structure Top (P : Program) (ι : Inj) (s : S) (sf : Suf) (hb : Nat) (fr : Fr) (fr' : Frame) : Prop where
  fn : fr'.fn = fr.fn
  func : ∃ f, P.funcs[fr.fn]? = some f
  rnd : RndRel ι fr.rnd fr'.roundOf
  rk : fr.rnd ≠ none → fr'.kind = .normal
  kind : (∀ d, sf.kd = some d → fr.isDef = d ∧ fr'.kind = kindOf d) ∧ ∀ q, sf.me = some q → fr.fn = q.1 ∧ fr.nt = q.2.1 ∧ fr'.kind = q.2.2
  size : fr'.tmps.size = fr.nt
  defers : DefsTo ι sf.D fr.defers fr'.defers
  mode : ModeRel ι fr.mode fr'.mode
  body : fr.mode = .run → Body P ι s hb fr.nt sf.K fr.g fr'.tmps fr.todo fr'.todo
  tmps : fr.mode ≠ .run → TmpRel ι fr.g fr'.tmps

theorem Top.monoN {ι ι' : Inj} {s s' : S} {sf : Suf} {hb : Nat} {fr : Fr} {fr' : Frame} (h : Top P ι s sf hb fr fr') (hx : Ext ι ι') (hm : fr.mode ≠ .run) : Top P ι' s' sf hb fr fr' :=
  ⟨h.fn, h.func, h.rnd.mono hx, h.rk, h.kind, h.size, h.defers.mono hx, h.mode.mono hx, fun e => absurd e hm, fun e => (h.tmps e).mono hx⟩

/-- a frame that waits for an answer -/
def Wait (P : Program) (ι : Inj) (s : S) (sf : Suf) (hb hb' : Nat) (c : Fr) (c' : Frame) : Prop :=
  ∀ ι' s', Fut hb' ι s ι' s' →
    (∀ v v' c1, VRel ι' v v' → finish c v = some c1 → Top P ι' s' sf hb c1 (c'.finish v')) ∧
    (∀ ch ch', PanRel ι' ch ch' → Top P ι' s' sf hb (raise c ch) (c'.raise ch'))

structure Base where
  sf : Suf
  hb : Nat
  cs : List Frame

inductive Cal (P : Program) (B : Base) (ι : Inj) (s : S) : Nat → Suf → List Fr → List Frame → Prop
  | base : Cal P B ι s B.hb B.sf [] B.cs
  | call {hb hb' : Nat} {sf : Suf} {c : Fr} {c' : Frame} {cs : List Fr} {cs' : List Frame} : Cal P B ι s hb sf cs cs' → hb ≤ hb' → Wait P ι s sf hb hb' c c' → Cal P B ι s hb' ⟨[], [], some false, none⟩ (c :: cs) (c' :: cs')
  | dfr {hb hb' : Nat} {sf : Suf} {c : Fr} {c' : Frame} {cs : List Fr} {cs' : List Frame} : Cal P B ι s hb sf cs cs' → hb ≤ hb' → c.mode ≠ .run → Top P ι s sf hb c c' → Cal P B ι s hb' ⟨[], [], some true, none⟩ (c :: cs) (c' :: cs')

theorem Cal.mono {B : Base} {ι ι' : Inj} {s s' : S} {hb : Nat} {sf : Suf} {cs : List Fr} {cs' : List Frame} (h : Cal P B ι s hb sf cs cs') : Fut hb ι s ι' s' → Cal P B ι' s' hb sf cs cs' := by
  induction h with
  | base => intro _; exact .base
  | call h1 h2 h3 ih => exact fun f => .call (ih (f.weaken h2)) h2 (fun ι'' s'' f' => h3 ι'' s'' (f.trans f'))
  | dfr h1 h2 h3 h4 ih => exact fun f => .dfr (ih (f.weaken h2)) h2 h3 (h4.monoN f.ext h3)

theorem Cal.le {B : Base} {ι : Inj} {s : S} {hb : Nat} {sf : Suf} {cs : List Fr} {cs' : List Frame} (h : Cal P B ι s hb sf cs cs') : B.hb ≤ hb := by
  induction h with
  | base => exact Nat.le_refl _
  | call _ h2 _ ih => omega
  | dfr _ h2 _ _ ih => omega

/-- the world ahead of the run, and numbers that are told -/
structure Start extends World where
  pin : Nat → Option Nat
def Start.of (w : World) : Start := { w with pin := fun _ => none }

/-- what was before the run stands -/
structure Ini (w0 : Start) (ι : Inj) (s : S) (w : World) : Prop where
  size : w0.heap.size ≤ w.heap.size
  same : ∀ b, b < w0.heap.size → w.heap[b]? = w0.heap[b]?
  own : ∀ b, b < w0.heap.size → ¬ Owned ι s b
  out : w.output = w0.output
  os : w.os = w0.os
  tape : w.tape = w0.tape
  pin : ∀ i v, w0.pin i = some v → ∃ l, ι i = some l ∧ l.base = v
theorem Ini.fm {w0 : Start} {ι ι' : Inj} {s s' : S} {w w' : World} {hb : Nat} (h : Ini w0 ι s w) (f : Fm hb ι s w ι' s' w') : Ini w0 ι' s' w' :=
  ⟨Nat.le_trans h.size f.size, fun b hb => by rw [f.heap b (Nat.lt_of_lt_of_le hb h.size) (h.own b hb), h.same b hb],
   fun b hb ho => h.own b hb (f.own b (Nat.lt_of_lt_of_le hb h.size) ho), by rw [f.out, h.out], by rw [f.os, h.os], by rw [f.tape, h.tape], fun i v hp => let ⟨l, a, b⟩ := h.pin i v hp; ⟨l, f.ext _ _ a, b⟩⟩

/-- the two machines stand alike -/
structure RSt (P : Program) (B : Base) (w0 : Start) (ι : Inj) (hb : Nat) (sf : Suf) (fr : Fr) (rest : List Fr) (s : S) (top : Frame) (cs : List Frame) (w : World) : Prop where
  cal : Cal P B ι s hb sf rest cs
  top : Top P ι s sf hb fr top
  srel : SRel P ι s w
  hb : hb ≤ s.nx
  lo : s.lo ≤ s.nx
  ini : Ini w0 ι s w

/-- functions known whole are as the model's -/
def CallsAt (P : Program) (f : FuncId) (args : Array Value) (w : World) (cs : List Frame) (R : Ending → World → Prop) : Prop :=
  ∃ e w' fr, R e w' ∧ Comes P (lone (Frame.enter P f args .normal) cs w) (lone fr cs w') e ∧ fr.fn = f ∧ fr.leaving P w' e
/-- what a known call comes to -/
def KPost (P : Program) (f : FuncId) (ι : Inj) (s : S) (w : World) (args' : Array Value) (cs : List Frame) : KRes → Prop
  | .ret v s' => ∃ ι' w' v', VRel ι' v v' ∧ SRel P ι' s' w' ∧ Fm s.nx ι s w ι' s' w' ∧ CallsAt P f args' w cs fun e w'' => e = .returned v' ∧ w'' = w'
  | .pan t v s' => ∃ ι' w' v', VRel ι' v v' ∧ SRel P ι' s' w' ∧ Fm s.nx ι s w ι' s' w' ∧ CallsAt P f args' w cs fun e w'' => e = .panicked [{ v := .iface t v', recovered := false, goexit := false }] ∧ w'' = w'
def KOk (P : Program) (w0 : Start) (F : List Value → S → Option KRes) (f : FuncId) : Prop :=
  ∀ (cs : List Frame) args s r, F args s = some r → ∀ ι w (args' : Array Value), Ini w0 ι s w → SRel P ι s w → s.lo ≤ s.nx → VRelL ι args args'.toList → KPost P f ι s w args' cs r
def KnownOk (P : Program) (K : Known) (w0 : Start) : Prop := ∀ f F, K f = some F → KOk P w0 F f

/-- what a step comes to -/
def ResPost' (P : Program) (B : Base) (w0 : Start) (ι : Inj) (s : S) (w : World) (m : Machine) : Res → Prop
  | .next ⟨frs, s'⟩ => ∃ ι' hb sf fr rest top cs w', frs = fr :: rest ∧ Steps P m (lone top cs w') ∧ RSt P B w0 ι' hb sf fr rest s' top cs w' ∧ Fm B.hb ι s w ι' s' w'
  | .idle fr s' => ∃ ι' top w', fr.todo = [] ∧ fr.mode = .run ∧ Steps P m (lone top B.cs w') ∧ RSt P B w0 ι' B.hb B.sf fr [] s' top B.cs w' ∧ Fm B.hb ι s w ι' s' w'
  | .stop fr s' => ∃ ι' top w', fr.defers = [] ∧ fr.mode ≠ .run ∧ Steps P m (lone top B.cs w') ∧ RSt P B w0 ι' B.hb B.sf fr [] s' top B.cs w' ∧ Fm B.hb ι s w ι' s' w'
  | .upd fr s' r k x => ∃ ι' w' kind tmps ds todo all i L o, Steps P m (lone (mkF fr.fn kind tmps ds (.inRegion all (i :: L) :: todo)) B.cs w') ∧ RndRel ι' fr.rnd kind.r ∧ SRel P ι' s' w' ∧ s'.lo ≤ s'.nx ∧ B.hb ≤ s'.nx ∧ Ini w0 ι' s' w' ∧ Fm B.hb ι s w ι' s' w' ∧
      AtOp P ι' s' w' all tmps i o (.upd r k x) ∧ Wait P ι' s' B.sf B.hb s'.nx fr (mkF fr.fn kind tmps ds (.inRegion all (i :: L) :: todo))
  | .bad _ => True

theorem ResPost'.of_steps {B : Base} {w0 : Start} {ι ι1 : Inj} {s s1 : S} {w w1 : World} {m m1 : Machine} {r : Res} (h : Steps P m m1) (f : Fm B.hb ι s w ι1 s1 w1)
    (k : ResPost' P B w0 ι1 s1 w1 m1 r) : ResPost' P B w0 ι s w m r := by
  cases r with
  | next st =>
    obtain ⟨frs, s'⟩ := st
    obtain ⟨a1, a2, a3, a4, a5, a6, a7, a8, b1, b2, b3, b4⟩ := k
    exact ⟨a1, a2, a3, a4, a5, a6, a7, a8, b1, h.trans b2, b3, f.trans b4⟩
  | idle fr s' =>
    obtain ⟨a1, a2, a3, b0, b1, b2, b3, b4⟩ := k
    exact ⟨a1, a2, a3, b0, b1, h.trans b2, b3, f.trans b4⟩
  | stop fr s' =>
    obtain ⟨a1, a2, a3, b0, b1, b2, b3, b4⟩ := k
    exact ⟨a1, a2, a3, b0, b1, h.trans b2, b3, f.trans b4⟩
  | upd fr s' r k x =>
    obtain ⟨a1, a2, a3, a4, a5, a6, a7, a8, a9, a10, b1, b0, b2, b3, b4, b5, b6, b7⟩ := k
    exact ⟨a1, a2, a3, a4, a5, a6, a7, a8, a9, a10, h.trans b1, b0, b2, b3, b4, b5, f.trans b6, b7⟩
  | bad => trivial

/-! ### entering -/

theorem finfo_eq {f : FuncId} {nt : Nat} {c : Code} {rs : List ResultVar} (h : finfo P f = some ⟨nt, c, rs⟩) : ∃ fn, P.funcs[f]? = some fn ∧ fn.body = some c ∧ fn.ntmps = nt ∧ fn.results.toList = rs := by
  unfold finfo at h
  cases hf : P.funcs[f]? with
  | none => simp [hf] at h
  | some fn =>
    simp only [hf] at h
    cases hb : fn.body with
    | none => simp [hb] at h
    | some c' => simp [hb] at h; obtain ⟨rfl, rfl, rfl⟩ := h; exact ⟨fn, rfl, hb, rfl, rfl⟩

theorem enter_ok {f : FuncId} {args : List Value} {args' : Array Value} {isDef : Bool} {n : Fr} (h : enter P f args isDef = some n) {ι : Inj} (hr : VRelL ι args args'.toList) (s : S) (hb : Nat) :
    Top P ι s ⟨[], [], some isDef, none⟩ hb n (Frame.enter P f args' (kindOf isDef)) := by
  unfold enter at h
  cases hi : finfo P f with
  | none => simp [hi] at h
  | some fi =>
    obtain ⟨nt, c, rs⟩ := fi
    simp only [hi] at h
    cases hle : Nat.ble args.length nt with
    | false => rw [hle] at h; cases h
    | true =>
      rw [hle] at h; simp only [cond_true, Option.some.injEq] at h; subst h
      have hle' : args.length ≤ nt := Nat.le_of_ble_eq_true hle
      obtain ⟨fn, h1, h2, h3, _⟩ := finfo_eq hi
      have hlen : args.length = args'.size := by rw [hr.length]; simp
      have hT : TmpRel ι (T.ofList args 0 .leaf) (args' ++ Array.replicate (nt - args'.size) undef) := by
        intro t
        simp only [ev, T.get_ofList]
        simp only [Nat.zero_le, true_and, Nat.zero_add, Nat.sub_zero]
        by_cases ht : t < args.length
        · rw [if_pos ht]
          have e : args[t]? = some (args[t]) := List.getElem?_eq_getElem ht
          rw [e]
          obtain ⟨v', x1, x2⟩ := hr.get e
          have hlt : t < args'.size := by rw [← hlen]; exact ht
          have : (args' ++ Array.replicate (nt - args'.size) undef).getD t undef = v' := by
            rw [Array.getElem?_toList, Array.getElem?_eq_getElem hlt] at x1
            simp only [Option.some.injEq] at x1
            have hlt2 : t < args'.size + (nt - args'.size) := Nat.lt_of_lt_of_le hlt (Nat.le_add_right _ _)
            simp [Array.getD, Array.getElem_append, hlt, x1, hlt2]
          rw [this]; exact x2
        · rw [if_neg ht]
          have hget : (T.leaf : T Value).get t = none := rfl
          rw [hget]
          have : (args' ++ Array.replicate (nt - args'.size) undef).getD t undef = undef := by
            by_cases h2 : t < (args' ++ Array.replicate (nt - args'.size) undef).size
            · simp only [Array.getD, h2, dite_true]
              have hge : ¬ t < args'.size := by rw [← hlen]; exact ht
              simp [Array.getElem_append, hge]
            · simp only [Array.getD, h2, dite_false]
          rw [this]; exact .tuple .nil
      refine ⟨rfl, ⟨fn, h1⟩, .none, fun x => absurd rfl x, ⟨fun d hd => by cases hd; exact ⟨rfl, rfl⟩, nofun⟩, ?_, .nil, .run, fun _ => ?_, fun x => absurd rfl x⟩
      · simp only [Frame.enter, h1, h3, Option.map_some, Option.getD_some, Array.size_append, Array.size_replicate]; omega
      · refine .plain ?_ ?_
        · simpa [Frame.enter, h1, h3] using hT
        · simp only [Frame.enter, h1, Option.bind_some, h2, Option.getD_some]
          exact .cons (.code c) .nil

end
end Go.AM
/- Calls, answers, panics: side by side. -/
namespace Go.AM
noncomputable section
variable {P : Program} {B : Base} {w0 : Start} {ι : Inj} {s : S} {w : World} {hb : Nat} {sf : Suf} {K : Known}

/-! ### what a function answers -/

theorem loadV_ok (hS : SRel P ι s w) {t : TypeId} {b off : Nat} {l : Loc} {v : Value} (hi : ι b = some l) (h : loadV P s t b off = some v) :
    ∃ v', VRel ι v v' ∧ (loadVar t ⟨l.blk, l.base + off, none⟩).run P w = .ok v' w := by
  unfold loadV at h
  cases hag : aggB P t with
  | true =>
    rw [hag] at h; simp only [cond_true] at h
    obtain ⟨d, hu⟩ := aggB_some hag
    cases hs : szOf P t with
    | none => simp [hs] at h
    | some n =>
      simp only [hs] at h
      cases hl : s.load b off n with
      | none => simp [hl] at h
      | some vs =>
        simp only [hl, Option.some.injEq] at h; subst h
        obtain ⟨vs', h1, h2, h3⟩ := load_rel hS hi hl
        refine ⟨.agg vs'.toArray, .agg (by simpa using h1), ?_⟩
        have := run_loadCells_list (P := P) w ⟨l.blk, l.base + off, none⟩ vs' h3
        rw [h2] at this
        simp [loadVar, run_isAgg' hu, hag, run_sizeOf' hs, this]
  | false =>
    rw [hag] at h; simp only [cond_false] at h
    cases hu : P.underlying t with
    | none => simp [hu] at h
    | some d =>
      simp only [hu] at h
      obtain ⟨v', h1, h2⟩ := cell_rel hS hi h
      exact ⟨v', h2, by simp [loadVar, run_isAgg' hu, hag, h1]⟩

def resOne (tmps : Array Value) : ResultVar → Sem Value
  | .tmp t => pure (tmps.getD t undef)
  | .cell a t => do loadVar t (← asAddr (tmps.getD a undef))
theorem results_eq (f : Func) (tmps : Array Value) : results f tmps = (f.results.mapM (resOne tmps) >>= fun vs => pure (if h : vs.size = 1 then vs[0] else .tuple vs)) := rfl

theorem resL_ok (hS : SRel P ι s w) {g : T Value} {tmps : Array Value} (ht : TmpRel ι g tmps) : ∀ {rs : List ResultVar} {l : List Value}, resL P g s rs = some l →
    ∃ l', VRelL ι l l' ∧ (rs.mapM (resOne tmps)).run P w = .ok l' w
  | [], l, h => by
    simp only [resL, Option.some.injEq] at h; subst h
    exact ⟨[], .nil, by simp⟩
  | .tmp t :: rs, l, h => by
    simp only [resL] at h
    cases hr : resL P g s rs with
    | none => simp [hr] at h
    | some r =>
      simp only [hr, Option.some.injEq] at h; subst h
      obtain ⟨l', h1, h2⟩ := resL_ok hS ht hr
      exact ⟨_, .cons (ht t) h1, by simp [List.mapM_cons, resOne, h2]⟩
  | .cell a t :: rs, l, h => by
    simp only [resL] at h
    have hta := ht a
    cases he : ev g (.tmp a) with
    | pointer p =>
      cases p with
      | none => simp [he] at h
      | some p =>
        simp only [he] at h
        cases hl : loadV P s t p.block p.off with
        | none => simp [hl] at h
        | some v =>
          cases hr : resL P g s rs with
          | none => simp [hl, hr] at h
          | some r =>
            simp only [hl, hr, Option.some.injEq] at h; subst h
            obtain ⟨l', h1, h2⟩ := resL_ok hS ht hr
            rw [he] at hta
            obtain ⟨lc, hi, e⟩ := hta.ptr_inv
            obtain ⟨v', h3, h4⟩ := loadV_ok hS hi hl
            exact ⟨_, .cons h3 h1, by simp [List.mapM_cons, resOne, e, asAddr, h2, h4]⟩
    | _ => simp [he] at h

theorem one_ok {ι : Inj} {l l' : List Value} (h : VRelL ι l l') : VRel ι (one l) (if h : l'.toArray.size = 1 then l'.toArray[0] else .tuple l'.toArray) := by
  cases h with
  | nil => exact .tuple .nil
  | cons a b =>
    cases b with
    | nil => simpa [one] using a
    | cons c d => exact .tuple (.cons a (.cons c d))

theorem resV_ok (hS : SRel P ι s w) {g : T Value} {tmps : Array Value} (ht : TmpRel ι g tmps) {fn : FuncId} {v : Value} (h : resV P fn g s = some v) :
    ∃ f v', P.funcs[fn]? = some f ∧ VRel ι v v' ∧ (results f tmps).run P w = .ok v' w := by
  unfold resV at h
  cases hi : finfo P fn with
  | none => simp [hi] at h
  | some fi =>
    obtain ⟨nt, c, rs⟩ := fi
    simp only [hi] at h
    obtain ⟨f, h1, _, _, h4⟩ := finfo_eq hi
    cases hr : resL P g s rs with
    | none => simp [hr] at h
    | some l =>
      simp only [hr, Option.some.injEq] at h; subst h
      rw [← h4] at hr
      obtain ⟨l', h5, h6⟩ := resL_ok hS ht hr
      refine ⟨f, _, h1, one_ok h5, ?_⟩
      rw [results_eq]
      have : (f.results.mapM (resOne tmps)).run P w = .ok l'.toArray w := by
        have e : f.results = f.results.toList.toArray := by simp
        rw [e, List.mapM_toArray]
        simp only [map_eq_pure_bind, Sem.run_bind, h6, Result.andThen_ok, Sem.run_pure]
      simp only [Sem.run_bind, this, Result.andThen_ok, Sem.run_pure]

/-! ### an operation that was left under way -/

theorem Top.put {fr fr1 : Fr} {c' : Frame} (h : Top P ι s sf hb fr c') (he : fr1 = fr) : Top P ι s sf hb fr1 c' := he ▸ h

theorem finish_rnd {fr fr2 : Fr} {v : Value} (h : finish fr v = some fr2) : fr2.rnd = fr.rnd := by
  unfold finish at h
  split at h <;> first | (cases h; done) | (simp only [Option.some.injEq] at h; subst h; rfl)

theorem setPs_rel : ∀ {ps : List Tmp} {args args' : List Value} {g : T Value} {tmps : Array Value} {nt : Nat}, VRelL ι args args' → args.length = ps.length → psOk nt ps = true → tmps.size = nt → TmpRel ι g tmps →
    TmpRel ι (setPs g ps args) ((ps.zip args').foldl (fun tmps (t, a) => tmps.setIfInBounds t a) tmps) ∧ ((ps.zip args').foldl (fun tmps (t, a) => tmps.setIfInBounds t a) tmps).size = nt
  | [], _, _, _, _, _, h, _, _, hs, ht => by cases h <;> exact ⟨ht, hs⟩
  | p :: ps, _, _, _, _, _, .nil, hl, _, _, _ => by simp at hl
  | p :: ps, _, _, _, _, _, .cons a b, hl, hp, hs, ht => by
    simp only [psOk, Bool.and_eq_true, Nat.blt_eq] at hp
    simp only [setPs, List.zip_cons_cons, List.foldl_cons]
    exact setPs_rel b (by simpa using hl) hp.2 (by simpa using hs) (ht.set (by rw [hs]; exact hp.1) a)

theorem app_ok (hK : KnownOk P K w0) {fr : Fr} {cs : List Fr} {cs' : List Frame} {r : OR} {kind : KR} {tmps : Array Value} {ds : List Deferred} {all : Array Oper} {i : Nat} {L : List Nat} {todo : List Item} {o : Oper}
    (hcal : Cal P B ι s hb sf cs cs') (hw : Wait P ι s sf hb s.nx fr (mkF fr.fn kind tmps ds (.inRegion all (i :: L) :: todo))) (hat : AtOp P ι s w all tmps i o r)
    (hkd : ∀ d, sf.kd = some d → fr.isDef = d ∧ kind.k = kindOf d) (hrn : RndRel ι fr.rnd kind.r) (hS : SRel P ι s w) (hhb : hb ≤ s.nx) (hlo : s.lo ≤ s.nx) (hini : Ini w0 ι s w) :
    ResPost' P B w0 ι s w (lone (mkF fr.fn kind tmps ds (.inRegion all (i :: L) :: todo)) cs' w) (app P K fr cs s r) := by
  have hpost := hat.post s.nx (Nat.le_refl _)
  have hfin : ∀ v, (mkF fr.fn kind tmps ds (.inRegion all (i :: L) :: todo)).finish v = mkF fr.fn kind (pt tmps o.dst v) ds (.inRegion all L :: todo) := fun v => fin_eq hat.op v ds
  cases r with
  | val v s' => exact absurd rfl (hat.noval v s')
  | call f args =>
    obtain ⟨hbo, args', hrun, hargs⟩ := hpost
    have hst := st_enter (fn := fr.fn) (kind := kind) (ds := ds) (L := L) (k := todo) (cs := cs') hat.op hat.wanted hrun
    simp only [app]
    cases hk : askK K f args s with
    | some r =>
      have hF : ∃ F, K f = some F ∧ F args s = some r := by
        unfold askK at hk
        cases hkf : K f with
        | none => simp [hkf] at hk
        | some F => simp only [hkf] at hk; exact ⟨F, rfl, hk⟩
      obtain ⟨F, hkf, hF⟩ := hF
      have hp := hK f F hkf (mkF fr.fn kind tmps ds (.inRegion all (i :: L) :: todo) :: cs') args s r hF ι w args' hini hS hlo hargs
      cases r with
      | ret v s1 =>
        simp only []
        obtain ⟨ι1, wk, v', hv, hS1, hF1, hcalls⟩ := hp
        obtain ⟨e, w1, fr1, ⟨rfl, rfl⟩, hcomes, _, hleave⟩ := hcalls
        have hl := step_leave_returned (c := mkF fr.fn kind tmps ds (.inRegion all (i :: L) :: todo)) (cs := cs') hleave
        cases hfi : finish fr v with
        | none => trivial
        | some fr2 =>
          simp only []
          have hFw := hF1.weaken hhb
          have hnx := hF1.nx
          have hlo1 := hF1.lo
          refine ⟨ι1, hb, sf, fr2, cs, _, cs', _, rfl, .head hst (Steps.trans hcomes (.one hl)), ⟨hcal.mono hFw.fut, ?_, hS1, by omega, by omega, hini.fm hFw⟩, hFw.weaken hcal.le⟩
          exact (hw ι1 s1 hF1.fut).1 v v' fr2 hv hfi
      | pan t v s1 =>
        simp only []
        obtain ⟨ι1, wk, v', hv, hS1, hF1, hcalls⟩ := hp
        obtain ⟨e, w1, fr1, ⟨rfl, rfl⟩, hcomes, _, hleave⟩ := hcalls
        have hl := step_leave_panicked (c := mkF fr.fn kind tmps ds (.inRegion all (i :: L) :: todo)) (cs := cs') hleave
        have hFw := hF1.weaken hhb
        have hnx := hF1.nx
        have hlo1 := hF1.lo
        refine ⟨ι1, hb, sf, _, cs, _, cs', _, rfl, .head hst (Steps.trans hcomes (.one hl)), ⟨hcal.mono hFw.fut, ?_, hS1, by omega, by omega, hini.fm hFw⟩, hFw.weaken hcal.le⟩
        exact (hw ι1 s1 hF1.fut).2 [⟨t, v, false⟩] _ (.cons hv .nil)
    | none =>
      simp only []
      cases he : enter P f args false with
      | none => trivial
      | some n =>
        simp only []
        refine ⟨ι, s.nx, _, n, fr :: cs, _, _, w, rfl, .one hst, ⟨.call hcal hhb hw, enter_ok he hargs s s.nx, hS, Nat.le_refl _, hlo, hini⟩, Fm.refl _ _ _ _⟩
  | round l args =>
    obtain ⟨lb, args', hi, hargs, hrun⟩ := hpost
    simp only [app]
    cases hg : s.h.get l with
    | none => trivial
    | some ob =>
      cases ob with
      | loop st pe fn0 nt0 g0 ps asg body de =>
        simp only []
        cases hc : Nat.beq args.length ps.toList.length && psOk nt0 ps.toList && (P.funcs[fn0]?).isSome with
        | false => trivial
        | true =>
          simp only [cond_true]
          simp only [Bool.and_eq_true, Nat.beq_eq] at hc
          obtain ⟨o', ho1, ho2⟩ := hS.obj l lb _ hi hg
          cases ho2 with
          | loop hsz0 htm hde =>
            rename_i tmps0 ld
            have hlen := hargs.length
            have hsz : args'.size = ps.size := by
              have := hc.1.1
              simp only [Array.length_toList] at this hlen
              omega
            have hget : (Instr.getLoop lb.blk).run P w = .ok { state := st, pending := pe, fn := fn0, tmps := tmps0, params := ps, assign := asg, body, defers := ld.blk } w := by
              have : (getObj lb.blk).run P w = .ok (.loop { state := st, pending := pe, fn := fn0, tmps := tmps0, params := ps, assign := asg, body, defers := ld.blk }) w := by simp only [getObj, Sem.run, ho1]
              simp only [Instr.getLoop, Sem.run_bind, this, Result.andThen_ok, Sem.run_pure]
            have hy : (Instr.yield lb.blk args').run P w = .ok (.round lb.blk fn0 ((ps.zip args').foldl (fun tmps (t, a) => tmps.setIfInBounds t a) tmps0) asg body) w := by
              simp only [Instr.yield, Sem.run_bind, hget, Result.andThen_ok, hsz, ne_eq, not_true_eq_false, if_false, Sem.run_pure]
            have hst := st_round (fn := fr.fn) (kind := kind) (ds := ds) (L := L) (k := todo) (cs := cs') hat.op hat.wanted (hrun.trans hy)
            obtain ⟨ff, hff⟩ : ∃ ff, P.funcs[fn0]? = some ff := Option.isSome_iff_exists.1 hc.2
            have hT := setPs_rel (ι := ι) hargs (by simpa using hc.1.1) hc.1.2 hsz0 htm
            rw [← Array.toList_zip, Array.foldl_toList] at hT
            refine ⟨ι, s.nx, ⟨[], [], some false, none⟩, _, fr :: cs, _, _, w, rfl, .one hst, ⟨.call hcal hhb hw, ?_, hS, Nat.le_refl _, hlo, hini⟩, Fm.refl _ _ _ _⟩
            exact ⟨rfl, ⟨ff, hff⟩, .some hi, fun _ => rfl, ⟨fun d hd => by cases hd; exact ⟨rfl, rfl⟩, nofun⟩, hT.2, .nil, .run,
              fun _ => .plain hT.1 (.cons (.code asg) (.cons .beginRound (.cons (.code body) .nil))), fun x => absurd rfl x⟩
      | _ => trivial
  | dfr f c a =>
    obtain ⟨hbo, d, hrun, hd⟩ := hpost
    simp only [app]
    cases hfi : finish fr und with
    | none => trivial
    | some fr2 =>
      obtain ⟨fn2, nt2, g2, todo2, ds2, m2, d2, r2⟩ := fr2
      cases r2 with
      | some _ => trivial
      | none =>
        simp only []
        have hk0 : kind.r = none := by
          have e := finish_rnd hfi
          simp only at e
          rw [← e] at hrn
          exact hrn.isNone
        have hst := st_defer (fn := fr.fn) (kind := kind) (ds := ds) (L := L) (k := todo) (cs := cs') hk0 hat.op hat.wanted hrun
        have hT := (hw ι s (Fut.refl _ _ _)).1 und undef _ (.tuple .nil) hfi
        rw [hfin] at hT
        refine ⟨ι, hb, sf, _, cs, _, cs', w, rfl, .one hst, ⟨hcal, ?_, hS, hhb, hlo, hini⟩, Fm.refl _ _ _ _⟩
        exact ⟨hT.fn, hT.func, hT.rnd, hT.rk, hT.kind, hT.size, .cons hd hT.defers, hT.mode, hT.body, hT.tmps⟩
  | rcv =>
    have hrun : (execOp (rho tmps) o).run P w = .ok .recover w := hpost
    have hst0 := fun hk0 => st_recover (fn := fr.fn) (kind := kind) (ds := ds) (L := L) (k := todo) (cs := cs') hk0 hat.op hat.wanted hrun
    cases hcal0 : hcal with
    | base =>
      obtain ⟨fn, nt, g, td, dd, m, d, rn⟩ := fr
      simp only [app]
      cases d <;> cases rn <;> trivial
    | call h1 h2 h3 =>
      have := (hkd false rfl).1
      obtain ⟨fn, nt, g, td, dd, m, d, rn⟩ := fr
      simp only at this; subst this
      simp only [app]; trivial
    | dfr h1 h2 h3 h4 =>
      rename_i hb1 sf1 c c' cs1 cs1'
      obtain ⟨hd1, hd2⟩ := hkd true rfl
      obtain ⟨fn, nt, g, td, dd, m, d, rn⟩ := fr
      simp only at hd1; subst hd1
      cases rn with
      | some _ => simp only [app]; trivial
      | none =>
        have hst := hst0 hrn.isNone
        obtain ⟨cf, cn, cg, ct, cds, cm, cd, crd⟩ := c
        cases cm with
        | run => exact absurd rfl h3
        | returning =>
          simp only [app]
          cases hfi : finish ⟨fn, nt, g, td, dd, m, true, none⟩ .nilIface with
          | none => trivial
          | some fr2 =>
            simp only []
            have hm := h4.mode
            have hm' : c'.mode = .returning := by
              generalize c'.mode = mm at hm
              cases hm; rfl
            have htr : tryRecover (mkF fn kind tmps ds (.inRegion all (i :: L) :: todo)) (c' :: cs1') = none := by
              simp [tryRecover, hd2, kindOf, hm']
            simp only [htr] at hst
            refine ⟨ι, hb, _, fr2, _, _, _, w, rfl, .one hst, ⟨hcal, ?_, hS, hhb, hlo, hini⟩, Fm.refl _ _ _ _⟩
            have := (hw ι s (Fut.refl _ _ _)).1 .nilIface .nilIface fr2 .nilIface hfi
            rw [hfin] at this; exact this
        | pan ch =>
          cases ch with
          | nil => simp only [app]; trivial
          | cons e older =>
            obtain ⟨t, v, b⟩ := e
            cases b with
            | true => simp only [app]; trivial
            | false =>
              simp only [app]
              cases hfi : finish ⟨fn, nt, g, td, dd, m, true, none⟩ (.iface t v) with
              | none => trivial
              | some fr2 =>
                simp only []
                have hm := h4.mode
                obtain ⟨older', v', hv, hold, hm'⟩ : ∃ older' v', VRel ι v v' ∧ PanRel ι older older' ∧ c'.mode = .panicking ({ v := .iface t v', recovered := false, goexit := false } :: older') := by
                  generalize c'.mode = mm at hm
                  cases hm with
                  | pan hp => cases hp with
                    | cons a b => exact ⟨_, _, a, b, rfl⟩
                have htr : tryRecover (mkF fn kind tmps ds (.inRegion all (i :: L) :: todo)) (c' :: cs1') = some (.iface t v', { c' with mode := .panicking ({ v := .iface t v', recovered := true } :: older') } :: cs1') := by
                  simp [tryRecover, hd2, kindOf, hm']
                simp only [htr] at hst
                refine ⟨ι, hb, _, fr2, _, _, _, w, rfl, .one hst, ⟨.dfr h1 h2 (by simp) ?_, ?_, hS, hhb, hlo, hini⟩, Fm.refl _ _ _ _⟩
                · exact ⟨h4.fn, h4.func, h4.rnd, h4.rk, h4.kind, h4.size, h4.defers, .pan (.cons hv hold), nofun, fun _ => h4.tmps (by simp)⟩
                · have := (hw ι s (Fut.refl _ _ _)).1 (.iface t v) (.iface t v') fr2 (.iface hv) hfi
                  rw [hfin] at this; exact this
  | upd r k x =>
    simp only [app]
    cases cs with
    | cons _ _ => trivial
    | nil =>
      simp only []
      cases hcal with
      | base => exact ⟨ι, w, kind, tmps, ds, todo, all, i, L, o, .refl _ _, hrn, hS, hlo, hhb, hini, Fm.refl _ _ _ _, hat, hw⟩
  | pan t v =>
    obtain ⟨v', hrun, hv⟩ := hpost
    have hst := st_panic (fn := fr.fn) (kind := kind) (ds := ds) (L := L) (k := todo) (cs := cs') hat.op hat.wanted hrun
    simp only [app]
    refine ⟨ι, hb, sf, _, cs, _, cs', w, rfl, .one hst, ⟨hcal, ?_, hS, hhb, hlo, hini⟩, Fm.refl _ _ _ _⟩
    exact (hw ι s (Fut.refl _ _ _)).2 _ _ (.cons hv .nil)
  | bad n => simp only [app]; trivial

/-! ### answers -/

theorem settle_ok {m : AMode} {m' : FrameMode} (h : ModeRel ι m m') : ModeRel ι (settleA m) (settle m') := by
  cases h with
  | run => exact .run
  | returning => exact .returning
  | pan hp =>
    cases hp with
    | nil => exact .pan .nil
    | cons a b =>
      rename_i t v v' rb l l'
      cases rb with
      | false => exact .pan (.cons a b)
      | true =>
        have : ∀ {x : List APan} {y : List PanicEntry}, PanRel ι x y → y.dropWhile (!·.goexit) = [] := by
          intro x y h
          induction h with
          | nil => rfl
          | cons _ _ ih => simp [List.dropWhile, ih]
        simp only [settleA, settle, this b]
        exact .returning

theorem settleA_run {m : AMode} (h : m ≠ .run) : settleA m ≠ .run := by
  unfold settleA
  split
  · simp
  · exact h

theorem clearG_plain {todo : List AItem} {g : T Value} (h : ∀ all ops p hs k, todo ≠ .draw all ops p hs :: k) : clearG todo g = g := by
  unfold clearG
  split
  · exact absurd rfl (h _ _ _ _ _)
  · rfl

theorem TmpRel.clearD {ι : Inj} {tmps : Array Value} : ∀ (ops : List Dop) {g : T Value}, TmpRel ι g tmps → TmpRel ι (AM.clearD ops g) tmps
  | [], _, h => h
  | o :: l, g, h => by
    simp only [AM.clearD]
    refine TmpRel.clearD l ?_
    intro t
    by_cases e : o.cl.dst = some t
    · rw [ev_putD_eq t e]; exact .poi _
    · rw [ev_putD_ne e]; exact h t
theorem TmpRel.clearG {ι : Inj} {tmps : Array Value} {g : T Value} (todo : List AItem) (h : TmpRel ι g tmps) : TmpRel ι (AM.clearG todo g) tmps := by
  unfold AM.clearG
  split
  · exact h.clearD _
  · exact h

/-- a panic reaches a frame that is not running -/
theorem raise_ok {c : Fr} {c' : Frame} (h : Top P ι s sf hb c c') (hm : c.mode ≠ .run) {ch : List APan} {ch' : List PanicEntry} (hp : PanRel ι ch ch') : Top P ι s sf hb (raise c ch) (c'.raise ch') := by
  obtain ⟨cf, cn, cg, ct, cds, cm, cd, crd⟩ := c
  have hmd := h.mode
  have ht := (h.tmps hm).clearG ct
  cases cm with
  | run => exact absurd rfl hm
  | returning =>
    have hme : c'.mode = .returning := by
      generalize c'.mode = mm at hmd
      cases hmd; rfl
    have e : c'.raise ch' = { c' with mode := .panicking ch' } := by simp [Frame.raise, hme]
    rw [e]
    exact ⟨h.fn, h.func, h.rnd, h.rk, h.kind, h.size, h.defers, .pan hp, nofun, fun _ => ht⟩
  | pan old =>
    obtain ⟨old', ho, hme⟩ : ∃ old', PanRel ι old old' ∧ c'.mode = .panicking old' := by
      generalize c'.mode = mm at hmd
      cases hmd; exact ⟨_, by assumption, rfl⟩
    have e : c'.raise ch' = { c' with mode := .panicking (ch' ++ old') } := by simp [Frame.raise, hme]
    rw [e]
    exact ⟨h.fn, h.func, h.rnd, h.rk, h.kind, h.size, h.defers, .pan (hp.append ho), nofun, fun _ => ht⟩

theorem unwind_ok {fr : Fr} {cs : List Fr} {cs' : List Frame} {top : Frame} (h : RSt P B w0 ι hb sf fr cs s top cs' w) (hm : fr.mode ≠ .run) :
    ResPost' P B w0 ι s w (lone top cs' w) (unwindA P fr cs s) := by
  obtain ⟨hcal, hT, hS, hhb, hlo, hini⟩ := h
  obtain ⟨fn, nt, g, td, dd, m, d, rn⟩ := fr
  simp only at hm
  have hm' : top.mode ≠ .run := by
    have := hT.mode
    intro e
    generalize top.mode = mm at this e
    subst e
    cases this; exact hm rfl
  have hdf := hT.defers
  cases rn with
  | some _ => simp only [unwindA]; trivial
  | none =>
  cases dd with
  | cons d0 dd =>
    generalize htd : top.defers = td' at hdf
    cases hdf with
    | cons hd hrest =>
      rename_i d' l'
      have hTop : ∀ (ι' : Inj) (s' : S), Ext ι ι' → Top P ι' s' sf hb ⟨fn, nt, g, td, dd, m, d, none⟩ { top with defers := l' } := fun ι' s' hx =>
        ⟨hT.fn, hT.func, hT.rnd.mono hx, hT.rk, hT.kind, hT.size, hrest.mono hx, hT.mode.mono hx, fun e => absurd e hm, fun e => (hT.tmps e).mono hx⟩
      cases d0 with
      | coll b =>
        simp only [unwindA]
        cases hle : Nat.ble s.lo b with
        | false => trivial
        | true =>
          simp only [cond_true]
          cases hg : s.h.get b with
          | none => trivial
          | some ob =>
            cases ob with
            | defd x =>
              cases x with
              | none => trivial
              | some l =>
                cases l with
                | cons _ _ => trivial
                | nil =>
                  simp only []
                  cases hd with
                  | coll hib =>
                    rename_i lb
                    obtain ⟨o', ho1, ho2⟩ := hS.obj b lb _ hib hg
                    cases ho2
                    have hlt := hS.bound b lb hib
                    have hput : WPut w { w with heap := w.heap.setIfInBounds lb.blk (.deferred none) } lb.blk (.deferred none) :=
                      ⟨by simp [hlt], fun c hc => by simp [Array.getElem?_setIfInBounds, Ne.symm hc], by simp, rfl, rfl, rfl⟩
                    have hnp : ∀ id2 l2 o2, id2 ≠ b → ι id2 = some l2 → l2.blk = lb.blk → s.h.get id2 = some o2 → Dead o2 := by
                      intro id2 l2 o2 h1 h2 h3 h4
                      rcases hS.alias b id2 lb l2 _ o2 (Ne.symm h1) hib h2 h3.symm hg h4 with x | x | x | x
                      · simp [Dead] at x
                      · exact x
                      · simp [Par] at x
                      · by_cases hdd : Dead o2
                        · exact hdd
                        · obtain ⟨_, y⟩ := hS.par id2 o2 b h4 (by rw [h2]; simp) hdd x
                          obtain ⟨bb, e, _⟩ := y _ hg
                          cases e
                    have hnc : ∀ id2 o2, s.h.get id2 = some o2 → ι id2 ≠ none → ¬ Dead o2 → ¬ Par o2 b := by
                      intro id2 o2 h1 h2 h3 h4
                      obtain ⟨_, y⟩ := hS.par id2 o2 b h1 h2 h3 h4
                      obtain ⟨bb, e, _⟩ := y _ hg
                      cases e
                    have hS2 := hS.put hib hg (o := .defd none) (fun p => by simp [Par]) hnp hnc hput .defN
                    have hF := Fm.put (hb := hb) hib hg (o := .defd none) trivial (Nat.le_of_ble_eq_true hle) hput
                    have hst : Go.step P (lone top cs' w) = .next (lone { top with defers := l' } cs' { w with heap := w.heap.setIfInBounds lb.blk (.deferred none) }) := by
                      refine step_lone_go ?_
                      have hrun : (Instr.takeDeferred lb.blk).run P w = .ok [] { w with heap := w.heap.setIfInBounds lb.blk (.deferred none) } := by
                        have hget : (getObj lb.blk).run P w = .ok (.deferred (some [])) w := by simp only [getObj, Sem.run, ho1]
                        simp only [Instr.takeDeferred, Sem.run_bind, hget, Result.andThen_ok]
                        have hset : (setObj lb.blk (.deferred none)).run P w = .ok () { w with heap := w.heap.setIfInBounds lb.blk (.deferred none) } := by
                          exact (setObj_run ho1 (fun _ _ _ h => by cases h)).1
                        simp only [hset, Result.andThen_ok, Sem.run_pure]
                      cases hmode : top.mode with
                      | run => exact absurd hmode hm'
                      | returning => simp [stepG, unwind, hmode, htd, hrun]
                      | panicking chain => simp [stepG, unwind, hmode, htd, hrun]
                    refine ⟨ι, hb, sf, _, cs, _, cs', _, rfl, .one hst, ⟨hcal.mono hF.fut, hTop ι _ (Ext.refl _), hS2, by rw [S.put_nx]; exact hhb, by rw [S.put_nx, S.put_lo]; exact hlo, hini.fm hF⟩, hF.weaken hcal.le⟩
            | _ => trivial
      | call f c a =>
        simp only [unwindA]
        cases he : enter P f (a ++ c) true with
        | none => trivial
        | some n =>
          simp only []
          cases hbo : bodyOk P f with
          | false => trivial
          | true =>
            simp only [cond_true]
            cases hd with
            | call h1 h2 =>
              rename_i cs0 as0
              have hrun : (invoke (.fn (.func f) cs0) as0).run P w = .ok (.enter f (as0 ++ cs0)) w := by
                simp only [invoke]
                exact bodyOk_run hbo _ _
              have hst := step_defer (cs := cs') hm' htd rfl hrun
              have hargs : VRelL ι (a ++ c) (as0 ++ cs0).toList := by simpa using h2.append h1
              refine ⟨ι, s.nx, _, n, _, _, _, w, rfl, .one hst, ⟨.dfr hcal hhb hm (hTop ι s (Ext.refl _)), enter_ok he hargs s s.nx, hS, Nat.le_refl _, hlo, hini⟩, Fm.refl _ _ _ _⟩
  | nil =>
    cases hcal0 : hcal with
    | base =>
      simp only [unwindA]
      exact ⟨ι, top, w, rfl, hm, .refl _ _, ⟨.base, hT, hS, hhb, hlo, hini⟩, Fm.refl _ _ _ _⟩
    | call h1 h2 h3 =>
      rename_i hb1 sf1 c c' cs1 cs1'
      have htd : top.defers = [] := by
        generalize htd : top.defers = td' at hdf
        cases hdf; rfl
      obtain ⟨hd1, hd2⟩ := hT.kind.1 false rfl
      simp only at hd1; subst hd1
      obtain ⟨ff, hff⟩ := hT.func
      simp only [unwindA]
      have hmd := hT.mode
      cases m with
      | run => exact absurd rfl hm
      | pan ch =>
        simp only []
        obtain ⟨ch', hch, hme⟩ : ∃ ch', PanRel ι ch ch' ∧ top.mode = .panicking ch' := by
          generalize top.mode = mm at hmd
          cases hmd; exact ⟨_, by assumption, rfl⟩
        have hst : Go.step P (lone top (c' :: cs1') w) = .next (lone (c'.raise ch') cs1' w) := step_leave_panicked ⟨hme, htd, ff, by rw [hT.fn]; exact hff⟩
        refine ⟨ι, hb1, sf1, _, cs1, _, cs1', w, rfl, .one hst, ⟨h1, ?_, hS, by omega, hlo, hini⟩, Fm.refl _ _ _ _⟩
        exact (h3 ι s (Fut.refl _ _ _)).2 _ _ hch
      | returning =>
        simp only []
        cases hrv : resV P fn g s with
        | none => trivial
        | some v =>
          simp only []
          obtain ⟨f', v', hf', hv, hres⟩ := resV_ok hS (hT.tmps hm) hrv
          have hme : top.mode = .returning := by
            generalize top.mode = mm at hmd
            cases hmd; rfl
          have hst : Go.step P (lone top (c' :: cs1') w) = .next (lone (c'.finish v') cs1' w) :=
            step_leave_returned ⟨hme, htd, hd2, f', by rw [hT.fn]; exact hf', hres⟩
          simp only [retTo, cond_false]
          cases hfi : finish c v with
          | none => trivial
          | some c1 =>
            simp only []
            refine ⟨ι, hb1, sf1, c1, cs1, _, cs1', w, rfl, .one hst, ⟨h1, ?_, hS, by omega, hlo, hini⟩, Fm.refl _ _ _ _⟩
            exact (h3 ι s (Fut.refl _ _ _)).1 v v' c1 hv hfi
    | dfr h1 h2 h3 h4 =>
      rename_i hb1 sf1 c c' cs1 cs1'
      have htd : top.defers = [] := by
        generalize htd : top.defers = td' at hdf
        cases hdf; rfl
      obtain ⟨hd1, hd2⟩ := hT.kind.1 true rfl
      simp only at hd1; subst hd1
      obtain ⟨ff, hff⟩ := hT.func
      simp only [unwindA]
      have hmd := hT.mode
      cases m with
      | run => exact absurd rfl hm
      | pan ch =>
        simp only []
        obtain ⟨ch', hch, hme⟩ : ∃ ch', PanRel ι ch ch' ∧ top.mode = .panicking ch' := by
          generalize top.mode = mm at hmd
          cases hmd; exact ⟨_, by assumption, rfl⟩
        have hst : Go.step P (lone top (c' :: cs1') w) = .next (lone (c'.raise ch') cs1' w) := step_leave_panicked ⟨hme, htd, ff, by rw [hT.fn]; exact hff⟩
        refine ⟨ι, hb1, sf1, _, cs1, _, cs1', w, rfl, .one hst, ⟨h1, ?_, hS, by omega, hlo, hini⟩, Fm.refl _ _ _ _⟩
        exact raise_ok h4 h3 hch
      | returning =>
        simp only []
        cases hrv : resV P fn g s with
        | none => trivial
        | some v =>
          simp only []
          obtain ⟨f', v', hf', hv, hres⟩ := resV_ok hS (hT.tmps hm) hrv
          have hme : top.mode = .returning := by
            generalize top.mode = mm at hmd
            cases hmd; rfl
          have hst : Go.step P (lone top (c' :: cs1') w) = .next (lone { c' with mode := settle c'.mode } cs1' w) :=
            step_going_returned hd2 ⟨hme, htd, f', by rw [hT.fn]; exact hf', hres⟩
          obtain ⟨cf, cn, cg, ct, cds, cm, cd, crd⟩ := c
          simp only [retTo, cond_true]
          refine ⟨ι, hb1, sf1, _, cs1, _, cs1', w, rfl, .one hst, ⟨h1, ?_, hS, by omega, hlo, hini⟩, Fm.refl _ _ _ _⟩
          exact ⟨h4.fn, h4.func, h4.rnd, h4.rk, h4.kind, h4.size, h4.defers, settle_ok h4.mode, fun e => absurd e (settleA_run h3), fun _ => h4.tmps h3⟩

end
end Go.AM
/- A step of the abstract machine, and the model's steps for it. -/
namespace Go.AM
variable {P : Program} {B : Base} {w0 : Start} {ι : Inj} {s : S} {w : World} {hb : Nat} {sf : Suf} {K : Known}

/-- a running frame, in the open -/
structure Run1 (P : Program) (B : Base) (w0 : Start) (ι : Inj) (hb : Nat) (sf : Suf) (fn nt : Nat) (g : T Value) (ds : List ADef) (d : Bool) (rn : Option Nat) (rest : List Fr) (s : S)
    (kind : KR) (tmps : Array Value) (ds' : List Deferred) (cs : List Frame) (w : World) : Prop where
  cal : Cal P B ι s hb sf rest cs
  func : ∃ f, P.funcs[fn]? = some f
  rnd : RndRel ι rn kind.r
  rk : rn ≠ none → kind.k = .normal
  kind : (∀ b, sf.kd = some b → d = b ∧ kind.k = kindOf b) ∧ ∀ q, sf.me = some q → fn = q.1 ∧ nt = q.2.1 ∧ kind.k = q.2.2
  size : tmps.size = nt
  defers : DefsTo ι sf.D ds ds'
  srel : SRel P ι s w
  hb : hb ≤ s.nx
  lo : s.lo ≤ s.nx
  ini : Ini w0 ι s w

section
variable {fn nt : Nat} {g : T Value} {ds : List ADef} {d : Bool} {rn : Option Nat} {rest : List Fr} {kind : KR} {tmps : Array Value} {ds' : List Deferred} {cs : List Frame}

theorem Run1.topP (h : Run1 P B w0 ι hb sf fn nt g ds d rn rest s kind tmps ds' cs w) {ι1 : Inj} {s1 : S} {g1 : T Value} {tmps1 : Array Value} {todo : List AItem} {todo' : List Item} (hx : Ext ι ι1) (hsz : tmps1.size = nt)
    (hb1 : Body P ι1 s1 hb nt sf.K g1 tmps1 todo todo') : Top P ι1 s1 sf hb ⟨fn, nt, g1, todo, ds, .run, d, rn⟩ (mkF fn kind tmps1 ds' todo') :=
  ⟨rfl, h.func, h.rnd.mono hx, h.rk, h.kind, hsz, h.defers.mono hx, .run, fun _ => hb1, fun x => absurd rfl x⟩

theorem next_body (h : Run1 P B w0 ι hb sf fn nt g ds d rn rest s kind tmps ds' cs w) {ι1 : Inj} {s1 : S} {w1 : World} {m : Machine} {g1 : T Value} {tmps1 : Array Value} {todo : List AItem} {todo' : List Item}
    (hst : Steps P m (lone (mkF fn kind tmps1 ds' todo') cs w1)) (hsz : tmps1.size = nt) (hS : SRel P ι1 s1 w1) (hF : Fm hb ι s w ι1 s1 w1) (hbd : Body P ι1 s1 hb nt sf.K g1 tmps1 todo todo') :
    ResPost' P B w0 ι s w m (.next ⟨⟨fn, nt, g1, todo, ds, .run, d, rn⟩ :: rest, s1⟩) := by
  have := hF.nx
  have := hF.lo
  have := h.hb
  have := h.lo
  exact ⟨ι1, hb, sf, _, rest, _, cs, w1, rfl, hst, ⟨h.cal.mono hF.fut, h.topP hF.ext hsz hbd, hS, by omega, by omega, h.ini.fm hF⟩, hF.weaken h.cal.le⟩

theorem next_plain (h : Run1 P B w0 ι hb sf fn nt g ds d rn rest s kind tmps ds' cs w) {m : Machine} {todo : List AItem} {todo' : List Item}
    (hst : Steps P m (lone (mkF fn kind tmps ds' todo') cs w)) (ht : TmpRel ι g tmps) (hi : ItsRel P nt ι sf.K todo todo') :
    ResPost' P B w0 ι s w m (.next ⟨⟨fn, nt, g, todo, ds, .run, d, rn⟩ :: rest, s⟩) :=
  next_body h hst h.size h.srel (Fm.refl _ _ _ _) (.plain ht hi)

theorem Run1.fm (h : Run1 P B w0 ι hb sf fn nt g ds d rn rest s kind tmps ds' cs w) {ι1 : Inj} {s1 : S} {w1 : World} {g1 : T Value} {tmps1 : Array Value} (hsz : tmps1.size = nt) (hS : SRel P ι1 s1 w1) (hF : Fm hb ι s w ι1 s1 w1) :
    Run1 P B w0 ι1 hb sf fn nt g1 ds d rn rest s1 kind tmps1 ds' cs w1 := by
  have := hF.nx
  have := hF.lo
  have := h.hb
  have := h.lo
  exact ⟨h.cal.mono hF.fut, h.func, h.rnd.mono hF.ext, h.rk, h.kind, hsz, h.defers.mono hF.ext, hS, by omega, by omega, h.ini.fm hF⟩

theorem raise_run {todo : List AItem} {ch : List APan} : raise ⟨fn, nt, g, todo, ds, .run, d, rn⟩ ch = ⟨fn, nt, clearG todo g, [], ds, .pan ch, d, rn⟩ := rfl

theorem goOps_ok (hK : KnownOk P K w0) (h : Run1 P B w0 ι hb sf fn nt g ds d rn rest s kind tmps ds' cs w) (ht : TmpRel ι g tmps) {all : Array Oper} {j : Nat} (hj : j ≤ all.size) {k : List AItem} {k' : List Item} (hk : ItsRel P nt ι sf.K k k') :
    ResPost' P B w0 ι s w (lone (mkF fn kind tmps ds' (.inRegion all (List.range' j (all.size - j)) :: k')) cs w) (goOps P K fn nt g all (mkCls P nt all (all.toList.drop j)) k ds d rn rest s) := by
  have hsim := sim_ops (P := P) (hb := hb) (fn := fn) (kind := kind) (ds := ds') (all := all) (nt := nt) (k := k') (cs := cs) (all.size - j) j (by omega) g s ι w tmps ht h.size h.srel h.hb h.lo
  unfold goOps
  cases hr : runOps (mkCls P nt all (all.toList.drop j)) g s with
  | bad n => trivial
  | fin g1 s1 =>
    rw [hr] at hsim
    obtain ⟨ι1, w1, tmps1, hO⟩ := hsim
    exact next_body h hO.steps hO.size hO.srel hO.fm (.plain hO.tmps (hk.mono hO.fm.ext))
  | at_ l g1 s1 r =>
    rw [hr] at hsim
    obtain ⟨ι1, w1, tmps1, j1, o, hO, hl, hd, hat⟩ := hsim
    have h1 := h.fm (g1 := g1) hO.size hO.srel hO.fm
    refine .of_steps hO.steps (hO.fm.weaken h.cal.le) ?_
    refine app_ok (fr := ⟨fn, nt, g1, .ops all l :: k, ds, .run, d, rn⟩) hK h1.cal ?_ hat h1.kind.1 h1.rnd h1.srel h1.hb h1.lo h1.ini
    have hj1 : j1 < all.size := by
      rcases Nat.lt_or_ge j1 all.size with x | x
      · exact x
      · have := hat.op; rw [Array.getElem?_eq_none x] at this; cases this
    intro ι2 s2 hfut
    refine ⟨fun v v' c1 hv hfi => ?_, fun ch ch' hch => ?_⟩
    · rw [hl] at hfi
      simp only [finish, Option.some.injEq] at hfi
      subst hfi
      rw [fin_eq hat.op]
      refine h1.topP hfut.ext (by rw [pt_size]; exact hO.size) (.plain ((hO.tmps.mono hfut.ext).putD hO.size hd hv) ?_)
      exact .cons (.ops all (j1 + 1) (by omega)) ((hk.mono hO.fm.ext).mono hfut.ext)
    · rw [raise_run]
      exact ⟨rfl, h1.func, h1.rnd.mono hfut.ext, h1.rk, h1.kind, hO.size, h1.defers.mono hfut.ext, .pan hch, nofun, fun _ => by
        rw [clearG_plain (by intro _ _ _ _ _ x; cases x)]; exact hO.tmps.mono hfut.ext⟩

theorem goDraw_ok (hK : KnownOk P K w0) (h : Run1 P B w0 ι hb sf fn nt g ds d rn rest s kind tmps ds' cs w) {all : Array Oper} {ops : List Dop} {p : Nat} {hs : List Cl} {L : List Nat}
    (hB : Before P nt all hb ι s g tmps ops p hs L) {k : List AItem} {k' : List Item} (hk : ItsRel P nt ι sf.K k k') :
    ResPost' P B w0 ι s w (lone (mkF fn kind tmps ds' (.inRegion all L :: k')) cs w) (goDraw P K fn nt g all ops p hs k ds d rn rest s) := by
  have hsim := sim_draw (P := P) (hb := hb) (fn := fn) (kind := kind) (ds := ds') (all := all) (nt := nt) (k := k') (cs := cs) (ops := ops) hs p g s ι w tmps L hB h.srel h.hb h.lo
  unfold goDraw
  cases hr : runDraw ops p hs g s with
  | bad n => trivial
  | fin g1 s1 =>
    rw [hr] at hsim
    obtain ⟨ι1, w1, tmps1, hO⟩ := hsim
    exact next_body h hO.steps hO.size hO.srel hO.fm (.plain hO.tmps (hk.mono hO.fm.ext))
  | at_ p1 l g1 s1 r =>
    rw [hr] at hsim
    obtain ⟨ι1, w1, tmps1, i, L1, o, hsteps, hS1, hF1, hsz, hW, hat⟩ := hsim
    have h1 := h.fm (g1 := g1) hsz hS1 hF1
    refine .of_steps hsteps (hF1.weaken h.cal.le) ?_
    refine app_ok (fr := ⟨fn, nt, g1, .draw all ops p1 l :: k, ds, .run, d, rn⟩) hK h1.cal ?_ hat h1.kind.1 h1.rnd h1.srel h1.hb h1.lo h1.ini
    intro ι2 s2 hfut
    refine ⟨fun v v' c1 hv hfi => ?_, fun ch ch' hch => ?_⟩
    · obtain ⟨c, hs', e1, e2, hB'⟩ := hW.finish hfut hv
      subst e1
      simp only [finish, Option.some.injEq] at hfi
      subst hfi
      rw [fin_eq hat.op, e2]
      exact h1.topP hfut.ext (by rw [pt_size]; exact hsz) (.draw hB' ((hk.mono hF1.ext).mono hfut.ext))
    · rw [raise_run]
      exact ⟨rfl, h1.func, h1.rnd.mono hfut.ext, h1.rk, h1.kind, hsz, h1.defers.mono hfut.ext, .pan hch, nofun, fun _ => hW.clear.mono hfut.ext⟩

theorem before_zeroX {all : Array Oper} {X : Nat → List Nat} {bs H L : List Nat} (hP : PF P nt all X bs H) (hl : Lin all X L (fun _ => false)) (ht : TmpRel ι g tmps) (hsz : tmps.size = nt) :
    Before P nt all hb ι s g tmps (dopsFrom P nt all bs H 0) 0 (pick (mkCls P nt all all.toList) H) L := by
  have hdn : ∀ i, dnf P nt all bs H 0 0 i = false := fun i => by simp [dnf]
  refine ⟨X, bs, H, fun _ => false, fun _ => none, hP, rfl, rfl, hl, ⟨Nat.zero_le _, hsz, nofun, fun k i _ => by simp, nofun, nofun, fun t _ => ht t, ?_, nofun, nofun⟩⟩
  intro i o _ hd
  rw [hdn] at hd; cases hd

/-- a region that draws begins -/
theorem before_zero {all : Array Oper} {pl : Plan} (hp : planOf P nt all = some pl) (ht : TmpRel ι g tmps) (hsz : tmps.size = nt) (t : Nat) :
    Before P nt all hb ι s g tmps pl.ops 0 pl.hs (Region.schedule true all t) := by
  obtain ⟨bs, H, hP, e⟩ := planOf_spec hp
  subst e
  have hdn : ∀ i, dnf P nt all bs H 0 0 i = false := fun i => by simp [dnf]
  refine ⟨_, bs, H, fun _ => false, fun _ => none, hP, rfl, rfl, lin_schedule hP.edge t, ⟨Nat.zero_le _, hsz, nofun, fun k i _ => by simp, nofun, nofun, fun t _ => ht t, ?_, nofun, nofun⟩⟩
  intro i o _ hd
  rw [hdn] at hd; cases hd

theorem leave_ok (h : Run1 P B w0 ι hb sf fn nt g ds d none rest s kind tmps ds' cs w) (ht : TmpRel ι g tmps) {m : Machine} {todo : List Item}
    (hst : Steps P m (lone { mkF fn kind tmps ds' todo with mode := .returning } cs w)) :
    ResPost' P B w0 ι s w m (.next ⟨⟨fn, nt, g, [], ds, .returning, d, none⟩ :: rest, s⟩) := by
  refine ⟨ι, hb, sf, _, rest, _, cs, w, rfl, hst, ⟨h.cal, ?_, h.srel, h.hb, h.lo, h.ini⟩, Fm.refl _ _ _ _⟩
  exact ⟨rfl, h.func, h.rnd, h.rk, h.kind, h.size, h.defers, .returning, nofun, fun _ => ht⟩

theorem cond_rel {x : Operand} {b : Bool} (ht : TmpRel ι g tmps) (h : ev g x = .bool b) : (Act.mk tmps ds').eval x = .bool b := by
  cases x with
  | tmp t => have := ht t; rw [h] at this; exact this.bool_inv
  | const v => exact h
  | global g => cases h
  | func f => cases h

theorem rangeFunc_ok (h : Run1 P B w0 ι hb sf fn nt g ds d none rest s kind tmps ds' cs w) (ht : TmpRel ι g tmps) {f : Operand} {ps : Array Tmp} {asg body : Code} {k : List AItem} {k' : List Item} (hk : ItsRel P nt ι sf.K k k')
    {fi : FuncId} {first captured : Array Value} (he : ev g f = .func (.func fi) first captured) (hf : opdOk f = true) (hbo : bodyOk P fi = true) {n : Fr}
    (hen : enter P fi (first.toList ++ .func (.yield (Nat.succ s.nx)) #[] #[] :: captured.toList) false = some n) :
    ResPost' P B w0 ι s w (lone (mkF fn kind tmps ds' (.code (.rangeFunc f ps asg body) :: k')) cs w)
      (.next ⟨n :: ⟨fn, nt, g, .inRF (Nat.succ s.nx) :: k, .coll s.nx :: ds, .run, d, none⟩ :: rest, (s.push (.defd (some []))).push (.loop .ready none fn nt g ps asg body s.nx)⟩) := by
  obtain ⟨kk, kr⟩ := kind
  have hkr := h.rnd.isNone
  simp only at hkr
  subst hkr
  have hfr : ι s.nx = none := h.srel.fresh _ (Nat.le_refl _)
  -- the two objects
  have hp1 := WPush.mk' w (.deferred (some []))
  generalize hw1 : { w with heap := w.heap.push (.deferred (some [])) } = w1 at hp1
  have hx1 := Ext.up ⟨w.heap.size, 0, 0⟩ hfr
  have hS1 := h.srel.push (top := 0) (o := .defd (some [])) (fun p => by simp [Par]) hp1 .defS
  have hF1 := Fm.push (hb := hb) (o := .defd (some [])) h.srel h.hb h.lo (top := 0) hp1
  have hF1' := Fm.push (hb := s.nx) (o := .defd (some [])) h.srel (Nat.le_refl _) h.lo (top := 0) hp1
  generalize hs1 : s.push (.defd (some [])) = s1 at hS1 hF1 hF1'
  have hnx1 : s1.nx = s.nx + 1 := by rw [← hs1, S.push_nx]
  have hlo1 : s1.lo = s.lo := by rw [← hs1, S.push_lo]
  have hp2 := WPush.mk' w1 (.loop { state := .ready, pending := none, fn, tmps, params := ps, assign := asg, body, defers := w.heap.size })
  generalize hw2 : { w1 with heap := w1.heap.push (.loop { state := .ready, pending := none, fn, tmps, params := ps, assign := asg, body, defers := w.heap.size }) } = w2 at hp2
  have hfr1 : (ι.up s.nx ⟨w.heap.size, 0, 0⟩) s1.nx = none := hS1.fresh _ (Nat.le_refl _)
  have hx2 := Ext.up ⟨w1.heap.size, 0, 0⟩ hfr1
  have hlr : ORel P ((ι.up s.nx ⟨w.heap.size, 0, 0⟩).up s1.nx ⟨w1.heap.size, 0, 0⟩) ⟨w1.heap.size, 0, 0⟩ (.loop .ready none fn nt g ps asg body s.nx)
      (.loop { state := .ready, pending := none, fn, tmps, params := ps, assign := asg, body, defers := w.heap.size }) :=
    .loop (ld := ⟨w.heap.size, 0, 0⟩) h.size ((ht.mono hx1).mono hx2) (hx2 _ _ (Inj.up_self _ _ _))
  have hS2 := hS1.push (top := 0) (o := .loop .ready none fn nt g ps asg body s.nx) (fun p => by simp [Par]) hp2 hlr
  have hb1 := h.hb
  have hl1 := h.lo
  have hF2 := Fm.push (hb := hb) (o := .loop .ready none fn nt g ps asg body s.nx) hS1 (by omega) (by omega) (top := 0) hp2
  have hnx : Nat.succ s.nx = s1.nx := hnx1.symm
  rw [hnx]
  have hF := hF1.trans hF2
  -- the model's step
  have hfe : (Act.mk tmps ds').eval f = (rho tmps) f := by rw [rho_eq]
  have hrf := (ht.rho [f]) f (by simp) hf
  rw [he] at hrf
  obtain ⟨a', b', ef, r1, r2⟩ := hrf.func_inv
  have hargs : VRelL ((ι.up s.nx ⟨w.heap.size, 0, 0⟩).up s1.nx ⟨w1.heap.size, 0, 0⟩) (first.toList ++ .func (.yield s1.nx) #[] #[] :: captured.toList)
      (a' ++ #[Value.func (.yield w1.heap.size) #[] #[]] ++ b').toList := by
    have : (a' ++ #[Value.func (.yield w1.heap.size) #[] #[]] ++ b').toList = a'.toList ++ (Value.func (.yield w1.heap.size) #[] #[] :: b'.toList) := by simp
    rw [this]
    exact ((r1.mono hx1).mono hx2).append (.cons (.yield (l := ⟨w1.heap.size, 0, 0⟩) (Inj.up_self _ _ _)) ((r2.mono hx1).mono hx2))
  have hst : Go.step P (lone (mkF fn ⟨kk, none⟩ tmps ds' (.code (.rangeFunc f ps asg body) :: k')) cs w) =
      .next (lone (Frame.enter P fi (a' ++ #[Value.func (.yield w1.heap.size) #[] #[]] ++ b') .normal)
        (mkF fn ⟨kk, none⟩ tmps ({ target := .collected w.heap.size, args := #[] } :: ds') (.inRangeFunc w1.heap.size :: k') :: cs) w2) := by
    refine step_lone_go ?_
    have hel : (Instr.enterLoop fn tmps ps asg body none).run P w = .ok (w1.heap.size, [{ target := .collected w.heap.size, args := #[] }]) w2 := by
      simp [Instr.enterLoop, ← hw2, ← hw1]
      rfl
    have hfe2 : (mkF fn ⟨kk, none⟩ tmps ({ target := .collected w.heap.size, args := #[] } :: ds') (.inRangeFunc w1.heap.size :: k')).eval f = .func (.func fi) a' b' := by
      rw [← ef, ← hfe]; cases f <;> rfl
    have hcall : ∀ (w3 : World), (resolve (mkF fn ⟨kk, none⟩ tmps ({ target := .collected w.heap.size, args := #[] } :: ds') (.inRangeFunc w1.heap.size :: k')).eval { callee := .value f, args := #[.const (.func (.yield w1.heap.size) #[] #[])], argTypes := #[] } 0 >>= fun dd => invoke dd.target dd.args).run P w3 = .ok (.enter fi (a' ++ #[Value.func (.yield w1.heap.size) #[] #[]] ++ b')) w3 := by
      intro w3
      simp only [resolve, hfe2, Deferred.ofValue, Sem.run_bind, Sem.run_pure, Result.andThen_ok, invoke, bodyOk_run hbo]
      simp [Frame.eval]
    have hcall' := hcall w2
    simp only [mkF] at hcall'
    simp [stepG, stepG.exec, mkF, hel, stepG.apply, hcall']
  have hT : Top P ((ι.up s.nx ⟨w.heap.size, 0, 0⟩).up s1.nx ⟨w1.heap.size, 0, 0⟩) (s1.push (.loop .ready none fn nt g ps asg body s.nx)) ⟨[], [], some false, none⟩ (s1.nx + 1) n
      (Frame.enter P fi (a' ++ #[Value.func (.yield w1.heap.size) #[] #[]] ++ b') .normal) := enter_ok (by rw [← hnx]; exact hen) hargs _ _
  have hcal := h.cal.mono hF.fut
  refine ⟨_, s1.nx + 1, _, n, _, _, _, w2, rfl, .one hst, ⟨.call hcal (by omega) ?_, hT, hS2, by rw [S.push_nx]; omega, by rw [S.push_nx, S.push_lo]; omega, h.ini.fm hF⟩, hF.weaken h.cal.le⟩
  intro ι2 s2 hfut
  have hxx : Ext ι ι2 := hF.ext.trans hfut.ext
  have hcoll : DefRel ι2 (.coll s.nx) { target := .collected w.heap.size, args := #[] } := .coll (l := ⟨w.heap.size, 0, 0⟩) (hfut.ext _ _ (hx2 _ _ (Inj.up_self _ _ _)))
  have hl : ι2 s1.nx = some ⟨w1.heap.size, 0, 0⟩ := hfut.ext _ _ (Inj.up_self _ _ _)
  refine ⟨fun v v' c1 hv hfi => ?_, fun ch ch' hch => ?_⟩
  · simp only [finish, Option.some.injEq] at hfi
    subst hfi
    exact ⟨rfl, h.func, .none, h.rk, h.kind, h.size, .cons hcoll (h.defers.mono hxx), .run, fun _ => .plain (ht.mono hxx) (.cons (.endRF (b := ⟨w1.heap.size, 0, 0⟩) hl) (hk.mono hxx)), fun x => absurd rfl x⟩
  · rw [raise_run]
    exact ⟨rfl, h.func, .none, h.rk, h.kind, h.size, .cons hcoll (h.defers.mono hxx), .pan hch, nofun, fun _ => ht.mono hxx⟩

end
end Go.AM
/- A step of the abstract machine: all of them. -/
namespace Go.AM
variable {P : Program} {B : Base} {w0 : Start} {ι : Inj} {s : S} {w : World} {hb : Nat} {sf : Suf} {K : Known}

theorem frame_eta (fr : Frame) (h : fr.mode = .run) : fr = mkF fr.fn ⟨fr.kind, fr.roundOf⟩ fr.tmps fr.defers fr.todo := by
  obtain ⟨a, b, c, d, e, f, g⟩ := fr
  simp only at h; subst h; rfl

section
variable {fn nt : Nat} {g : T Value} {ds : List ADef} {d : Bool} {rn : Option Nat} {rest : List Fr} {kind : KR} {tmps : Array Value} {ds' : List Deferred} {cs : List Frame}

/-- the loop's object is another one -/
theorem putLoop (hS : SRel P ι s w) {l : Nat} {lb : Loc} (hi : ι l = some lb) (hle : s.lo ≤ l) {st : LoopState} {pe : Option Code} {f n : Nat} {tm : T Value} {ps : Array Tmp} {asg body : Code} {de : Nat}
    (hg : s.h.get l = some (.loop st pe f n tm ps asg body de)) (st' : LoopState) (pe' : Option Code) (hb : Nat) :
    ∃ tmps0 ldb, (Instr.getLoop lb.blk).run P w = .ok { state := st, pending := pe, fn := f, tmps := tmps0, params := ps, assign := asg, body, defers := ldb } w ∧
      ∃ w', (setObj lb.blk (.loop { state := st', pending := pe', fn := f, tmps := tmps0, params := ps, assign := asg, body, defers := ldb })).run P w = .ok () w' ∧
      SRel P ι (s.put l (.loop st' pe' f n tm ps asg body de)) w' ∧ Fm hb ι s w ι (s.put l (.loop st' pe' f n tm ps asg body de)) w' := by
  obtain ⟨o', ho1, ho2⟩ := hS.obj l lb _ hi hg
  cases ho2 with
  | loop hsz0 htm hde =>
    rename_i tmps0 ld
    have hset := setObj_run (P := P) (o1 := .loop { state := st', pending := pe', fn := f, tmps := tmps0, params := ps, assign := asg, body, defers := ld.blk }) ho1 (fun _ _ _ h => by cases h)
    refine ⟨tmps0, ld.blk, ?_, _, hset.1, hS.putO hi hg (by intro b h; cases h) (by intro p; simp [Par]) hset.2 (.loop hsz0 htm hde), Fm.put hi hg trivial hle hset.2⟩
    have : (getObj lb.blk).run P w = .ok (.loop { state := st, pending := pe, fn := f, tmps := tmps0, params := ps, assign := asg, body, defers := ld.blk }) w := by simp only [getObj, Sem.run, ho1]
    simp only [Instr.getLoop, Sem.run_bind, this, Result.andThen_ok, Sem.run_pure]

theorem busyA_eq {st : LoopState} (h : busyA st = false) : (st == LoopState.busy) = false := by cases st <;> first | rfl | cases h


theorem endRF_ok (h : Run1 P B w0 ι hb sf fn nt g ds d rn rest s kind tmps ds' cs w) (ht : TmpRel ι g tmps) {k : List AItem} {k' : List Item} (hk : ItsRel P nt ι sf.K k k') {l : Nat} {lb : Loc} (hi : ι l = some lb)
    (hle : s.lo ≤ l) {st : LoopState} {pe : Option Code} {f n : Nat} {tm : T Value} {ps : Array Tmp} {asg body : Code} {de : Nat} (hg : s.h.get l = some (.loop st pe f n tm ps asg body de)) (hst : busyA st = false) :
    ResPost' P B w0 ι s w (lone (mkF fn kind tmps ds' (.endRangeFunc lb.blk :: k')) cs w)
      (.next ⟨⟨fn, nt, g, jumpA pe k, ds, .run, d, rn⟩ :: rest, s.drop l⟩) := by
  obtain ⟨tmps0, ldb, r1, w', r2, r3, r4⟩ := putLoop h.srel hi hle hg .exhausted pe hb
  have hrun : (Instr.endLoop lb.blk).run P w = .ok pe w' := by
    simp only [Instr.endLoop, Sem.run_bind, r1, Result.andThen_ok, busyA_eq hst, Bool.false_eq_true, if_false, Sem.run_pure, r2]
  have hdrop : ∀ id, (s.drop l).h.get id = ((s.put l (.loop .exhausted pe f n tm ps asg body de)).drop l).h.get id := by
    intro id
    rw [S.drop_get, S.drop_get, S.put_get]
    by_cases e : id = l
    · rw [if_pos e, if_pos e]
    · rw [if_neg e, if_neg e, if_neg e]
  have r5 := (r3.forget l).congrG hdrop (by rw [S.drop_nx, S.drop_nx, S.put_nx])
  have r6 := (r4.trans (Fm.forget (s := s.put l (.loop .exhausted pe f n tm ps asg body de)) hi (by rw [S.put_lo]; exact hle) hb)).congr hdrop (by rw [S.drop_nx, S.drop_nx, S.put_nx]) (by rw [S.drop_lo, S.drop_lo, S.put_lo])
  refine next_body h (todo' := (pe.map Item.code).toList ++ k') (.one ?_) h.size r5 r6 (.plain ht ?_)
  · refine step_lone_go ?_
    simp [stepG, stepG.exec, mkF, hrun]
  · cases pe with
    | none => exact hk
    | some c => exact .cons (.code c) hk

theorem beginRound_ok {l : Nat} (h : Run1 P B w0 ι hb sf fn nt g ds d (some l) rest s kind tmps ds' cs w) (ht : TmpRel ι g tmps) {k : List AItem} {k' : List Item} (hk : ItsRel P nt ι sf.K k k')
    (hle : s.lo ≤ l) {pe : Option Code} {f n : Nat} {tm : T Value} {ps : Array Tmp} {asg body : Code} {de : Nat} (hg : s.h.get l = some (.loop .ready pe f n tm ps asg body de)) :
    ResPost' P B w0 ι s w (lone (mkF fn kind tmps ds' (.beginRound :: k')) cs w)
      (.next ⟨⟨fn, nt, g, k, ds, .run, d, some l⟩ :: rest, s.put l (.loop .busy pe f n tm ps asg body de)⟩) := by
  obtain ⟨lb, hi, hkr⟩ : ∃ lb, ι l = some lb ∧ kind.r = some lb.blk := by
    have := h.rnd
    generalize kind.r = x at this
    cases this with
    | some x => exact ⟨_, x, rfl⟩
  obtain ⟨tmps0, ldb, r1, w', r2, r3, r4⟩ := putLoop h.srel hi hle hg .busy pe hb
  have hrun : (Instr.beginRound lb.blk).run P w = .ok () w' := by
    simp only [Instr.beginRound, Sem.run_bind, r1, Result.andThen_ok, r2, Sem.run_pure]
  exact next_body h (.one (stepR_beginRound (b := bs fn kind) (a := ⟨tmps, ds'⟩) hkr hrun)) h.size r3 r4 (.plain ht hk)

theorem endRound_ok {l : Nat} (h : Run1 P B w0 ι hb sf fn nt g ds d (some l) rest s kind tmps ds' cs w) {jump : Option Code} {fr' : Frame}
    (hst : ∀ lb v w' c cs1, kind.r = some lb → kind.k = .normal → (Instr.endRound lb jump).run P w = .ok v w' → cs = c :: cs1 → Go.step P (lone fr' (c :: cs1) w) = .next (lone (c.finish v) cs1 w')) :
    ResPost' P B w0 ι s w (lone fr' cs w) (AM.endRound l jump rest s) := by
  obtain ⟨lb, hi, hkr⟩ : ∃ lb, ι l = some lb ∧ kind.r = some lb.blk := by
    have := h.rnd
    generalize kind.r = x at this
    cases this with
    | some x => exact ⟨_, x, rfl⟩
  have hkk := h.rk (by simp)
  unfold AM.endRound
  cases hle : Nat.ble s.lo l with
  | false => trivial
  | true =>
    simp only [cond_true]
    have hle' := Nat.le_of_ble_eq_true hle
    cases hg : s.h.get l with
    | none => trivial
    | some ob =>
      cases ob with
      | loop st pe f n tm ps asg body de =>
        simp only []
        obtain ⟨tmps0, ldb, r1, w', r2, r3, r4⟩ := putLoop h.srel hi hle' hg (bif isNoneC jump then .ready else .done) jump hb
        have hrun : (Instr.endRound lb.blk jump).run P w = .ok (.bool (isNoneC jump)) w' := by
          cases jump with
          | none => simp only [isNoneC, cond_true] at r2; simp only [Instr.endRound, Sem.run_bind, r1, Result.andThen_ok, Option.isNone_none, if_true, r2, Sem.run_pure, isNoneC]
          | some c => simp only [isNoneC, cond_false] at r2; simp only [Instr.endRound, Sem.run_bind, r1, Result.andThen_ok, Option.isNone_some, Bool.false_eq_true, if_false, r2, Sem.run_pure, isNoneC]
        have hcal := h.cal
        have hkd := h.kind.1
        have hhb := h.hb
        have hlo := h.lo
        have hini := h.ini
        clear h
        cases hcal with
        | base => trivial
        | dfr h1 h2 h3 h4 =>
          have := (hkd true rfl).2
          rw [hkk] at this
          simp [kindOf] at this
        | call h1 h2 h3 =>
          rename_i hb1 sf1 c c' cs1 cs1'
          simp only [retTo, cond_false]
          cases hfi : finish c (.bool (isNoneC jump)) with
          | none => trivial
          | some c1 =>
            simp only []
            have hs1 := hst lb.blk _ w' c' cs1' hkr hkk hrun rfl
            have hT := (h3 ι _ r4.fut).1 _ _ c1 (.bool (isNoneC jump)) hfi
            have hnx := r4.nx
            have hlo2 := r4.lo
            exact ⟨ι, hb1, sf1, c1, cs1, _, cs1', w', rfl, .one hs1, ⟨h1.mono (r4.fut.weaken h2), hT, r3, by omega, by omega, hini.fm r4⟩, r4.weaken (Nat.le_trans h1.le h2)⟩
      | _ => trivial

theorem leaveA_ok (h : Run1 P B w0 ι hb sf fn nt g ds d rn rest s kind tmps ds' cs w) (ht : TmpRel ι g tmps) {jump : Option Code} {todo : List AItem} {todo' : List Item}
    (h0 : kind.r = none → retOk jump = true → ∃ todo2, Go.step P (lone (mkF fn kind tmps ds' todo') cs w) = .next (lone { mkF fn kind tmps ds' todo2 with mode := .returning } cs w))
    (h1 : ∀ lb v w' c cs1, kind.r = some lb → kind.k = .normal → (Instr.endRound lb jump).run P w = .ok v w' → cs = c :: cs1 → Go.step P (lone (mkF fn kind tmps ds' todo') (c :: cs1) w) = .next (lone (c.finish v) cs1 w')) :
    ResPost' P B w0 ι s w (lone (mkF fn kind tmps ds' todo') cs w) (leaveA ⟨fn, nt, g, todo, ds, .run, d, rn⟩ jump rest s) := by
  cases rn with
  | none =>
    simp only [leaveA]
    cases hr : retOk jump with
    | false => trivial
    | true =>
      obtain ⟨todo2, hs⟩ := h0 h.rnd.isNone hr
      exact leave_ok h ht (.one hs)
  | some l =>
    simp only [leaveA]
    exact endRound_ok h h1

/-- a loop over a function, within a round -/
theorem rangeFuncR_ok {l0 : Nat} (h : Run1 P B w0 ι hb sf fn nt g ds d (some l0) rest s kind tmps ds' cs w) (ht : TmpRel ι g tmps) {f : Operand} {ps : Array Tmp} {asg body : Code} {k : List AItem} {k' : List Item} (hk : ItsRel P nt ι sf.K k k')
    {st0 : LoopState} {pe0 : Option Code} {f0 n0 : Nat} {tm0 : T Value} {ps0 : Array Tmp} {asg0 body0 : Code} {de : Nat} (hg0 : s.h.get l0 = some (.loop st0 pe0 f0 n0 tm0 ps0 asg0 body0 de))
    {fi : FuncId} {first captured : Array Value} (he : ev g f = .func (.func fi) first captured) (hf : opdOk f = true) (hbo : bodyOk P fi = true) {n : Fr}
    (hen : enter P fi (first.toList ++ .func (.yield s.nx) #[] #[] :: captured.toList) false = some n) :
    ResPost' P B w0 ι s w (lone (mkF fn kind tmps ds' (.code (.rangeFunc f ps asg body) :: k')) cs w)
      (.next ⟨n :: ⟨fn, nt, g, .inRF s.nx :: k, ds, .run, d, some l0⟩ :: rest, s.push (.loop .ready none fn nt g ps asg body de)⟩) := by
  obtain ⟨lb, hi, hkr⟩ : ∃ lb, ι l0 = some lb ∧ kind.r = some lb.blk := by
    have := h.rnd
    generalize kind.r = x at this
    cases this with
    | some x => exact ⟨_, x, rfl⟩
  obtain ⟨o', ho1, ho2⟩ := h.srel.obj l0 lb _ hi hg0
  cases ho2 with
  | loop hsz0 htm0 hde =>
    rename_i tmps0 ld
    have hget : (Instr.getLoop lb.blk).run P w = .ok { state := st0, pending := pe0, fn := f0, tmps := tmps0, params := ps0, assign := asg0, body := body0, defers := ld.blk } w := by
      have : (getObj lb.blk).run P w = .ok (.loop { state := st0, pending := pe0, fn := f0, tmps := tmps0, params := ps0, assign := asg0, body := body0, defers := ld.blk }) w := by simp only [getObj, Sem.run, ho1]
      simp only [Instr.getLoop, Sem.run_bind, this, Result.andThen_ok, Sem.run_pure]
    have hfr : ι s.nx = none := h.srel.fresh _ (Nat.le_refl _)
    have hp1 := WPush.mk' w (.loop { state := .ready, pending := none, fn, tmps, params := ps, assign := asg, body, defers := ld.blk })
    generalize hw1 : { w with heap := w.heap.push (.loop { state := .ready, pending := none, fn, tmps, params := ps, assign := asg, body, defers := ld.blk }) } = w1 at hp1
    have hx1 := Ext.up ⟨w.heap.size, 0, 0⟩ hfr
    have hlr : ORel P (ι.up s.nx ⟨w.heap.size, 0, 0⟩) ⟨w.heap.size, 0, 0⟩ (.loop .ready none fn nt g ps asg body de)
        (.loop { state := .ready, pending := none, fn, tmps, params := ps, assign := asg, body, defers := ld.blk }) := .loop h.size (ht.mono hx1) (hx1 _ _ hde)
    have hS := h.srel.push (top := 0) (o := .loop .ready none fn nt g ps asg body de) (fun p => by simp [Par]) hp1 hlr
    have hF := Fm.push (hb := hb) (o := .loop .ready none fn nt g ps asg body de) h.srel h.hb h.lo (top := 0) hp1
    have hb1 := h.hb
    have hl1 := h.lo
    have hfe : (Act.mk tmps ds').eval f = (rho tmps) f := by rw [rho_eq]
    have hrf := (ht.rho [f]) f (by simp) hf
    rw [he] at hrf
    obtain ⟨a', b', ef, r1, r2⟩ := hrf.func_inv
    have hargs : VRelL (ι.up s.nx ⟨w.heap.size, 0, 0⟩) (first.toList ++ .func (.yield s.nx) #[] #[] :: captured.toList) (a' ++ #[Value.func (.yield w.heap.size) #[] #[]] ++ b').toList := by
      have : (a' ++ #[Value.func (.yield w.heap.size) #[] #[]] ++ b').toList = a'.toList ++ (Value.func (.yield w.heap.size) #[] #[] :: b'.toList) := by simp
      rw [this]
      exact (r1.mono hx1).append (.cons (.yield (l := ⟨w.heap.size, 0, 0⟩) (Inj.up_self _ _ _)) (r2.mono hx1))
    have hst : Go.step P (lone (mkF fn kind tmps ds' (.code (.rangeFunc f ps asg body) :: k')) cs w) =
        .next (lone (Frame.enter P fi (a' ++ #[Value.func (.yield w.heap.size) #[] #[]] ++ b') .normal) (mkF fn kind tmps ds' (.inRangeFunc w.heap.size :: k') :: cs) w1) := by
      refine step_lone_go ?_
      have hel : (Instr.enterLoop fn tmps ps asg body (some lb.blk)).run P w = .ok (w.heap.size, []) w1 := by
        simp [Instr.enterLoop, hget, ← hw1]
      have hfe2 : (mkF fn kind tmps ds' (.inRangeFunc w.heap.size :: k')).eval f = .func (.func fi) a' b' := by
        rw [← ef, ← hfe]; cases f <;> rfl
      have hcall : ∀ (w3 : World), (resolve (mkF fn kind tmps ds' (.inRangeFunc w.heap.size :: k')).eval { callee := .value f, args := #[.const (.func (.yield w.heap.size) #[] #[])], argTypes := #[] } 0 >>= fun dd => invoke dd.target dd.args).run P w3 = .ok (.enter fi (a' ++ #[Value.func (.yield w.heap.size) #[] #[]] ++ b')) w3 := by
        intro w3
        simp only [resolve, hfe2, Deferred.ofValue, Sem.run_bind, Sem.run_pure, Result.andThen_ok, invoke, bodyOk_run hbo]
        simp [Frame.eval]
      have hcall' := hcall w1
      simp only [mkF, hkr] at hcall'
      simp [stepG, stepG.exec, mkF, hkr, hel, stepG.apply, hcall']
    have hT : Top P (ι.up s.nx ⟨w.heap.size, 0, 0⟩) (s.push (.loop .ready none fn nt g ps asg body de)) ⟨[], [], some false, none⟩ (s.nx + 1) n
        (Frame.enter P fi (a' ++ #[Value.func (.yield w.heap.size) #[] #[]] ++ b') .normal) := enter_ok hen hargs _ _
    have hcal := h.cal.mono hF.fut
    refine ⟨_, s.nx + 1, _, n, _, _, _, w1, rfl, .one hst, ⟨.call hcal (by omega) ?_, hT, hS, by rw [S.push_nx]; omega, by rw [S.push_nx, S.push_lo]; omega, h.ini.fm hF⟩, hF.weaken h.cal.le⟩
    intro ι2 s2 hfut
    have hxx : Ext ι ι2 := hF.ext.trans hfut.ext
    have hl : ι2 s.nx = some ⟨w.heap.size, 0, 0⟩ := hfut.ext _ _ (Inj.up_self _ _ _)
    refine ⟨fun v v' c1 hv hfi => ?_, fun ch ch' hch => ?_⟩
    · simp only [finish, Option.some.injEq] at hfi
      subst hfi
      exact ⟨rfl, h.func, h.rnd.mono hxx, h.rk, h.kind, h.size, h.defers.mono hxx, .run, fun _ => .plain (ht.mono hxx) (.cons (.endRF (b := ⟨w.heap.size, 0, 0⟩) hl) (hk.mono hxx)), fun x => absurd rfl x⟩
    · rw [raise_run]
      exact ⟨rfl, h.func, h.rnd.mono hxx, h.rk, h.kind, h.size, h.defers.mono hxx, .pan hch, nofun, fun _ => ht.mono hxx⟩
end

theorem step_ok (hK : KnownOk P K w0) (hmix : P.follows .mixedOrders = true) {fr : Fr} {rest : List Fr} {top : Frame} {cs : List Frame} (h : RSt P B w0 ι hb sf fr rest s top cs w) :
    ResPost' P B w0 ι s w (lone top cs w) (AM.step P K ⟨fr :: rest, s⟩) := by
  by_cases hm : fr.mode = .run
  · obtain ⟨fn, nt, g, todo, ds, m, d, rn⟩ := fr
    simp only at hm; subst hm
    obtain ⟨hcal, hT, hS, hhb, hlo, hini⟩ := h
    have hrn := hT.rnd
    have hrk := hT.rk
    simp only at hrn hrk
    have hmode : top.mode = .run := by
      have := hT.mode
      generalize top.mode = mm at this
      cases this; rfl
    rw [frame_eta top hmode]
    have hR : Run1 P B w0 ι hb sf fn nt g ds d rn rest s ⟨top.kind, top.roundOf⟩ top.tmps top.defers cs w := ⟨hcal, hT.func, hrn, hrk, hT.kind, hT.size, hT.defers, hS, hhb, hlo, hini⟩
    have hfn := hT.fn
    have hbody := hT.body rfl
    simp only at hfn hbody
    rw [hfn]
    generalize (⟨top.kind, top.roundOf⟩ : KR) = kind at hR ⊢
    generalize top.tmps = tmps at hR hbody ⊢
    generalize top.defers = ds' at hR ⊢
    generalize top.todo = todo' at hbody ⊢
    clear hT hmode hfn hrn hrk
    cases hbody with
    | draw hB hk =>
      simp only [AM.step]
      exact goDraw_ok hK hR hB hk
    | plain ht hits =>
      cases hits with
      | nil =>
        cases rest with
        | nil =>
          simp only [AM.step]
          cases hcal with
          | base => exact ⟨ι, _, w, rfl, rfl, .refl _ _, ⟨.base, hR.topP (Ext.refl _) hR.size (.plain ht .nil), hS, hhb, hlo, hini⟩, Fm.refl _ _ _ _⟩
        | cons c rest =>
          simp only [AM.step]
          have hK0 : sf.K = [] := by cases hcal <;> rfl
          rw [hK0]
          refine leaveA_ok hR ht (fun hk0 _ => ⟨[], stepR_end (b := bs fn kind) (a := ⟨tmps, ds'⟩) hk0⟩) ?_
          intro lb v w' c cs1 e1 e2 e3 e4
          exact stepR_round_end (b := bs fn kind) (a := ⟨tmps, ds'⟩) e1 e2 e3
      | cons hit hk =>
        rename_i a b k k'
        cases hit with
        | inBlock id => simp only [AM.step]; exact next_plain hR (.one (stepR_inBlock (b := bs fn kind) (a := ⟨tmps, ds'⟩))) ht hk
        | inLoop c => simp only [AM.step]; exact next_plain hR (.one (stepR_inLoop (b := bs fn kind) (a := ⟨tmps, ds'⟩))) ht (.cons (.code c) (.cons (.inLoop c) hk))
        | inScope c =>
          simp only [AM.step]
          exact next_plain hR (.one (step_lone_go (by simp [stepG, stepG.exec]))) ht hk
        | ops all j hj =>
          simp only [AM.step]
          exact goOps_ok hK hR ht hj hk
        | inRF hi => simp only [AM.step]; trivial
        | endRF hi =>
          rename_i l lb
          simp only [AM.step]
          cases hle : Nat.ble s.lo l with
          | false => trivial
          | true =>
            simp only [cond_true]
            cases hg : s.h.get l with
            | none => trivial
            | some ob =>
              cases ob with
              | loop st pend f n tm ps asg body de =>
                simp only []
                cases hst : busyA st with
                | true => trivial
                | false => exact endRF_ok hR ht hk hi (Nat.le_of_ble_eq_true hle) hg hst
              | _ => trivial
        | beginRound =>
          simp only [AM.step]
          cases rn with
          | none => trivial
          | some l =>
            simp only []
            cases hle : Nat.ble s.lo l with
            | false => trivial
            | true =>
              simp only [cond_true]
              cases hg : s.h.get l with
              | none => trivial
              | some ob =>
                cases ob with
                | loop st pend f n tm ps asg body de =>
                  cases st with
                  | ready => exact beginRound_ok hR ht hk (Nat.le_of_ble_eq_true hle) hg
                  | _ => trivial
                | _ => trivial
        | code c =>
          simp only [AM.step]
          cases c with
          | seq x y => simp only [stepCode]; exact next_plain hR (.one (stepR_seq (b := bs fn kind) (a := ⟨tmps, ds'⟩))) ht (.cons (.code x) (.cons (.code y) hk))
          | skip => simp only [stepCode]; exact next_plain hR (.one (stepR_skip (b := bs fn kind) (a := ⟨tmps, ds'⟩))) ht hk
          | block id x => simp only [stepCode]; exact next_plain hR (.one (stepR_block (b := bs fn kind) (a := ⟨tmps, ds'⟩))) ht (.cons (.code x) (.cons (.inBlock id) hk))
          | loop x => simp only [stepCode]; exact next_plain hR (.one (stepR_loop (b := bs fn kind) (a := ⟨tmps, ds'⟩))) ht (.cons (.code x) (.cons (.inLoop x) hk))
          | scope x =>
            simp only [stepCode]
            exact next_plain hR (.one (step_lone_go (by simp [stepG, stepG.exec]))) ht (.cons (.code x) (.cons (.inScope x) hk))
          | exit id =>
            simp only [stepCode]
            cases hex : exitA id k with
            | none =>
              simp only []
              cases hcs : rest with
              | nil =>
                subst hcs
                cases rn with
                | none => simp only [leaveA, retOk, cond_false]; trivial
                | some l =>
                  simp only [leaveA, AM.endRound]
                  cases Nat.ble s.lo l with
                  | false => trivial
                  | true =>
                    simp only [cond_true]
                    cases s.h.get l with
                    | none => trivial
                    | some ob => cases ob <;> trivial
              | cons c rest2 =>
                subst hcs
                have hK0 : sf.K = [] := by cases hcal <;> rfl
                rw [hK0] at hk
                have hx := exit_none hk hex
                refine leaveA_ok hR ht (fun _ h => by cases h) ?_
                intro lb v w' c cs1 e1 e2 e3 e4
                exact stepR_round_exit (b := bs fn kind) (a := ⟨tmps, ds'⟩) e1 e2 hx e3
            | some k1 =>
              obtain ⟨k1', e1, e2⟩ := exit_rel hk k1 hex
              exact next_plain hR (.one (stepR_exit (b := bs fn kind) (a := ⟨tmps, ds'⟩) e1)) ht e2
          | ret =>
            simp only [stepCode]
            refine leaveA_ok hR ht (fun hk0 _ => ⟨_, stepR_ret (b := bs fn kind) (a := ⟨tmps, ds'⟩) hk0⟩) ?_
            intro lb v w' c cs1 e1 e2 e3 e4
            exact stepR_round_ret (b := bs fn kind) (a := ⟨tmps, ds'⟩) e1 e2 e3
          | label n =>
            simp only [stepCode]
            exact next_plain hR (.one (stepR_label (b := bs fn kind) (a := ⟨tmps, ds'⟩))) ht hk
          | cond x a b =>
            simp only [stepCode]
            cases he : ev g x with
            | bool t =>
              have hst := stepR_cond (P := P) (b := bs fn kind) (k := k') (cs := cs) (w := w) (x := a) (y := b) (cond_rel (ds' := ds') ht he)
              cases t with
              | true => exact next_plain hR (.one hst) ht (.cons (.code a) hk)
              | false => exact next_plain hR (.one hst) ht (.cons (.code b) hk)
            | _ => trivial
          | region id ops draw =>
            simp only [stepCode]
            cases draw with
            | false =>
              simp only [cond_false]
              refine .of_steps (.one (stepR_region (b := bs fn kind) (a := ⟨tmps, ds'⟩))) (Fm.refl _ _ _ _) ?_
              have := goOps_ok hK hR ht (all := ops) (Nat.zero_le _) hk
              simp only [Nat.sub_zero, List.drop_zero] at this
              rw [List.range_eq_range']
              exact this
            | true =>
              simp only [cond_true]
              cases hp : planOf P nt ops with
              | none =>
                simp only []
                cases hpx : planX P nt ops with
                | none => trivial
                | some AB =>
                  obtain ⟨⟨da, ha⟩, ⟨db, hb2⟩⟩ := AB
                  simp only []
                  cases hra : runDraw da 0 ha g s with
                  | at_ _ _ _ _ _ => trivial
                  | bad _ => trivial
                  | fin g1 s1 =>
                    cases hrb : runDraw db 0 hb2 g s with
                    | at_ _ _ _ _ _ => trivial
                    | bad _ => trivial
                    | fin g2 s2 =>
                      simp only []
                      cases heq : eqT eqVal g1 g2 && eqS' s1 s2 with
                      | false => trivial
                      | true =>
                        simp only [cond_true]
                        simp only [Bool.and_eq_true] at heq
                        have e1 := eqT_eq eqVal_eq heq.1
                        have e2 := eqS'_eq heq.2
                        obtain ⟨bs0, pre0, a0, b0, hab, hPA, hPB, eA, eB⟩ := planX_spec hpx
                        simp only [Plan.mk.injEq] at eA eB
                        have hsame : WSame w { w with drawn := w.drawn + 1 } := ⟨rfl, rfl, rfl, rfl⟩
                        refine .of_steps (.one (stepR_region_draw (b := bs fn kind) (a := ⟨tmps, ds'⟩))) (Fm.same hsame) ?_
                        rw [hmix]
                        have hR2 := hR.fm (g1 := g) hR.size (hS.same hsame) (Fm.same hsame)
                        have hl := lin_schedule hPA.edge (w.tape w.drawn (.order (bs fn kind).fn id))
                        rcases lin_split hab hl with hl | hl
                        · have := goDraw_ok hK hR2 (before_zeroX hPA hl ht hR.size) hk
                          rw [← eA.1, ← eA.2] at this
                          unfold goDraw at this
                          rw [hra] at this
                          exact this
                        · have := goDraw_ok hK hR2 (before_zeroX hPB hl ht hR.size) hk
                          rw [← eB.1, ← eB.2] at this
                          unfold goDraw at this
                          rw [hrb] at this
                          subst e1 e2
                          exact this
              | some pl =>
                obtain ⟨dops, hs⟩ := pl
                simp only []
                have hsame : WSame w { w with drawn := w.drawn + 1 } := ⟨rfl, rfl, rfl, rfl⟩
                refine .of_steps (.one (stepR_region_draw (b := bs fn kind) (a := ⟨tmps, ds'⟩))) (Fm.same hsame) ?_
                rw [hmix]
                exact goDraw_ok hK (hR.fm hR.size (hS.same hsame) (Fm.same hsame)) (before_zero hp ht hR.size _) hk
          | rangeFunc f ps asg body =>
            simp only [stepCode]
            cases rn with
            | some l0 =>
              simp only []
              cases hg0 : s.h.get l0 with
              | none => trivial
              | some ob =>
                cases ob with
                | loop st0 pe0 f0 n0 tm0 ps0 asg0 body0 de =>
                  cases he : ev g f with
                  | func fv first captured =>
                    cases fv with
                    | func fi =>
                      simp only []
                      cases hen : enter P fi (first.toList ++ .func (.yield s.nx) #[] #[] :: captured.toList) false with
                      | none => trivial
                      | some n =>
                        simp only []
                        cases hbo : bodyOk P fi && opdOk f with
                        | false => trivial
                        | true =>
                          simp only [Bool.and_eq_true] at hbo
                          exact rangeFuncR_ok hR ht hk hg0 he hbo.2 hbo.1 hen
                    | _ => trivial
                  | _ => trivial
                | _ => trivial
            | none =>
              cases he : ev g f with
              | func fv first captured =>
                cases fv with
                | func fi =>
                  simp only []
                  cases hen : enter P fi (first.toList ++ .func (.yield (Nat.succ s.nx)) #[] #[] :: captured.toList) false with
                  | none => trivial
                  | some n =>
                    simp only []
                    cases hbo : bodyOk P fi && opdOk f with
                    | false => trivial
                    | true =>
                      simp only [Bool.and_eq_true] at hbo
                      exact rangeFunc_ok hR ht hk he hbo.2 hbo.1 hen
                | _ => trivial
              | _ => trivial
          | _ => simp only [stepCode]; trivial
  · have : AM.step P K ⟨fr :: rest, s⟩ = unwindA P fr rest s := by
      obtain ⟨fn, nt, g, todo, ds, m, d, rn⟩ := fr
      cases m with
      | run => exact absurd rfl hm
      | _ => rfl
    rw [this]
    exact unwind_ok h hm

end Go.AM
/- From a longer run back to a shorter one. -/
namespace Go.AM
variable {P : Program}

mutual
theorem VRel.back {ι ι' : Inj} (hx : Ext ι ι') {v x y : Value} (h : VRel ι v x) (k : VRel ι' v y) : VRel ι v y := by
  cases h with
  | poi => exact .poi _
  | bool => cases k; exact .bool _
  | int => cases k; exact .int _ _
  | string => cases k; exact .string _
  | sym a b c d =>
    obtain ⟨l, x1, x2, x3, rfl⟩ := k.sym_inv b
    rw [hx _ _ a] at x1; cases x1
    exact .sym a b c d
  | row a b c d e f g =>
    obtain ⟨l, lz, n, cc, x1, x2, x3, x4, x5, x6, rfl⟩ := k.row_inv a
    rw [hx _ _ b] at x1; cases x1
    rw [hx _ _ c] at x2; cases x2
    exact .row a b c x3 x4 x5 x6
  | nilptr => cases k; exact .nilptr
  | nilslice => cases k; exact .nilslice _ _
  | nilmap => cases k; exact .nilmap
  | nilFunc => cases k; exact .nilFunc
  | nilIface => cases k; exact .nilIface
  | ptr a =>
    cases k with
    | ptr b => have := hx _ _ a; rw [this] at b; cases b; exact .ptr a
  | slice a b c d e f =>
    cases k with
    | slice a2 b2 c2 d2 e2 f2 => have := hx _ _ a; rw [this] at a2; cases a2; exact .slice a b2 c2 d2 e2 f2
  | map a =>
    cases k with
    | map b => have := hx _ _ a; rw [this] at b; cases b; exact .map a
  | func a b =>
    cases k with
    | func c d => exact .func (VRelL.back hx a c) (VRelL.back hx b d)
  | yield a =>
    cases k with
    | yield b => have := hx _ _ a; rw [this] at b; cases b; exact .yield a
  | iface a =>
    cases k with
    | iface b => exact .iface (VRel.back hx a b)
  | agg a =>
    cases k with
    | agg b => exact .agg (VRelL.back hx a b)
  | tuple a =>
    cases k with
    | tuple b => exact .tuple (VRelL.back hx a b)
theorem VRelL.back {ι ι' : Inj} (hx : Ext ι ι') {v x y : List Value} (h : VRelL ι v x) (k : VRelL ι' v y) : VRelL ι v y := by
  cases h with
  | nil => cases k; exact .nil
  | cons a b =>
    cases k with
    | cons c d => exact .cons (VRel.back hx a c) (VRelL.back hx b d)
end

theorem EsRel.back {ι ι' : Inj} (hx : Ext ι ι') : ∀ {es : List (Value × Value)} {l l' : List MapEntry}, EsRel ι es l → EsRel ι' es l' → EsRel ι es l'
  | _, _, _, .nil, .nil => .nil
  | _, _, _, .cons a b c, .cons a' b' c' => .cons (a.back hx a') (b.back hx b') (c.back hx c')

theorem ORel.back {ι ι' : Inj} (hx : Ext ι ι') {l : Loc} {o : AObj} {x y : Obj} (h : ORel P ι l o x) (k : ORel P ι' l o y) : ORel P ι l o y := by
  cases h with
  | dead _ hd => exact .dead _ hd
  | blk a b c d =>
    cases k with
    | dead _ hd => exact .dead _ hd
    | blk a2 b2 c2 d2 =>
      refine .blk a2 b2 (fun i v hi hn => ?_) d2
      obtain ⟨v1, _, r1⟩ := c i v hi hn
      obtain ⟨v2, e2, r2⟩ := c2 i v hi hn
      exact ⟨v2, e2, r1.back hx r2⟩
  | map a b c d e =>
    cases k with
    | map a2 b2 c2 d2 e2 => exact .map a2 (b.back hx b2) c2 d2 e2
  | pmap a b c d e f =>
    cases k with
    | pmap a2 b2 c2 d2 e2 f2 => exact .pmap a2 (b.back hx b2) c2 d2 e2 f2
  | row a b =>
    cases k with
    | row a2 b2 => exact .row a2 b2
  | mapS a b c d e f g =>
    cases k with
    | mapS a2 b2 c2 d2 e2 f2 g2 => exact .mapS a2 (b.back hx b2) c2 d2 e2 f2 g2
  | hole => cases k; exact .hole
  | sit a b =>
    cases k with
    | sit a2 b2 => exact .sit a2 b2
  | iter a b =>
    cases k with
    | iter a2 b2 => have := hx _ _ b; rw [this] at b2; cases b2; exact .iter a b
  | loop a b c =>
    cases k with
    | loop a2 b2 c2 => have := hx _ _ c; rw [this] at c2; cases c2; exact .loop a2 (fun t => (b t).back hx (b2 t)) c
  | defS => cases k; exact .defS
  | defN => cases k; exact .defN

/-- what a run of its own leaves of the old state -/
theorem SRel.restrict {ι ι' : Inj} {s s' : S} {w w' : World} (h : SRel P ι s w) (k : SRel P ι' s' w') (hx : Ext ι ι') (hg : ∀ id, ι id ≠ none → s'.h.get id = s.h.get id) (hsz : w.heap.size ≤ w'.heap.size) : SRel P ι s w' := by
  refine ⟨?_, h.fresh, fun id l a => Nat.lt_of_lt_of_le (h.bound id l a) hsz, h.alias, h.par⟩
  intro id l o a b
  obtain ⟨o1, _, r1⟩ := h.obj id l o a b
  obtain ⟨o2, q2, r2⟩ := k.obj id l o (hx _ _ a) (by rw [hg id (by rw [a]; simp)]; exact b)
  exact ⟨o2, q2, r1.back hx r2⟩

theorem EsRel.perm {ι : Inj} {es es2 : List (Value × Value)} (hp : es.Perm es2) : ∀ {l : List MapEntry}, EsRel ι es l → ∃ l2, l2.Perm l ∧ EsRel ι es2 l2 := by
  induction hp with
  | nil => intro l h; exact ⟨l, .refl _, h⟩
  | cons x _ ih =>
    intro l h
    cases h with
    | cons a b c =>
      obtain ⟨l2, p, r⟩ := ih c
      exact ⟨_, p.cons _, .cons a b r⟩
  | swap x y l0 =>
    intro l h
    cases h with
    | cons a b c =>
      cases c with
      | cons d e f => exact ⟨_, .swap _ _ _, .cons d e (.cons a b f)⟩
  | trans _ _ ih1 ih2 =>
    intro l h
    obtain ⟨l2, p2, r2⟩ := ih1 h
    obtain ⟨l3, p3, r3⟩ := ih2 r2
    exact ⟨l3, p3.trans p2, r3⟩

/-! ### runs -/

variable {B : Base} {w0 : Start} {K : Known}

theorem runB_ok (hK : KnownOk P K w0) (hmix : P.follows .mixedOrders = true) : ∀ (n : Nat) {ι : Inj} {hb : Nat} {sf : Suf} {fr : Fr} {rest : List Fr} {s : S} {top : Frame} {cs : List Frame} {w : World},
    RSt P B w0 ι hb sf fr rest s top cs w → ResPost' P B w0 ι s w (lone top cs w) (match runB P K n ⟨fr :: rest, s⟩ with | .next _ => .bad 0 | r => r)
  | 0, ι, hb, sf, fr, rest, s, top, cs, w, h => by simp only [runB]; trivial
  | n + 1, ι, hb, sf, fr, rest, s, top, cs, w, h => by
    have hs := step_ok hK hmix h
    simp only [runB]
    cases hr : AM.step P K ⟨fr :: rest, s⟩ with
    | next st =>
      rw [hr] at hs
      obtain ⟨frs, s1⟩ := st
      obtain ⟨ι1, hb1, sf1, fr1, rest1, top1, cs1, w1, rfl, h1, h2, h3⟩ := hs
      simp only []
      exact .of_steps h1 h3 (runB_ok hK hmix n h2)
    | idle fr s => rw [hr] at hs; exact hs
    | stop fr s => rw [hr] at hs; exact hs
    | upd fr s r k x => rw [hr] at hs; exact hs
    | bad n => trivial

theorem clearT_get : ∀ (l : List Tmp) (g : T Value) (t : Tmp), ev (clearT l g) (.tmp t) = ev g (.tmp t) ∨ ev (clearT l g) (.tmp t) = poi
  | [], g, t => .inl rfl
  | a :: l, g, t => by
    simp only [clearT]
    rcases clearT_get l (g.set a poi) t with x | x
    · rw [x, ev_set]
      by_cases e : t = a
      · exact .inr (by rw [if_pos e])
      · exact .inl (by rw [if_neg e])
    · exact .inr x
theorem clearT_rel {ι : Inj} {g : T Value} {tmps : Array Value} (l : List Tmp) (h : TmpRel ι g tmps) : TmpRel ι (clearT l g) tmps := by
  intro t
  rcases clearT_get l g t with x | x
  · rw [x]; exact h t
  · rw [x]; exact .poi _
theorem clearT_mem : ∀ {l : List Tmp} {g : T Value} {t : Tmp}, t ∈ l → ev (clearT l g) (.tmp t) = poi
  | a :: l, g, t, h => by
    simp only [clearT]
    rcases List.mem_cons.1 h with rfl | h
    · rcases clearT_get l (g.set t poi) t with x | x
      · rw [x, ev_set, if_pos rfl]
      · exact x
    · exact clearT_mem h
  | [], _, _, h => by simp at h

theorem keptT_spec {g0 g1 : T Value} : ∀ {n : Nat}, keptT g0 g1 n = true → ∀ t : Nat, t < n → ev g0 (.tmp t) = poi ∨ ev g0 (.tmp t) = ev g1 (.tmp t)
  | 0, _, t, h => absurd h (Nat.not_lt_zero _)
  | n + 1, hk, t, h => by
    simp only [keptT, Bool.and_eq_true, Bool.or_eq_true] at hk
    rcases Nat.lt_succ_iff_lt_or_eq.1 h with x | rfl
    · exact keptT_spec hk.2 t x
    · rcases hk.1 with x | x
      · refine .inl ?_
        generalize ev g0 (.tmp t) = v at x
        cases v with
        | chan c => cases c with
          | none => rfl
          | some _ => simp [isPoi] at x
        | _ => simp [isPoi] at x
      · exact .inr (sameV_eq _ _ _ x)

/-- the temporaries behind a round -/
theorem kept_rel {ι ι' : Inj} (hx : Ext ι ι') {g0 g1 : T Value} {tmps tmps' : Array Value} {nt : Nat} (hn : tmps.size = nt) (hn' : tmps'.size = nt) (h : TmpRel ι g0 tmps) (h' : TmpRel ι' g1 tmps') (hk : keptT g0 g1 nt = true) : TmpRel ι g0 tmps' := by
  intro t
  by_cases ht : t < nt
  · rcases keptT_spec hk t ht with x | x
    · rw [x]; exact .poi _
    · refine (h t).back hx ?_
      rw [x]; exact h' t
  · have e1 : tmps'.getD t undef = undef := by
      have : ¬ t < tmps'.size := by rw [hn']; exact ht
      simp only [Array.getD, this, dite_false]
    have e2 : tmps.getD t undef = undef := by
      have : ¬ t < tmps.size := by rw [hn]; exact ht
      simp only [Array.getD, this, dite_false]
    rw [e1, ← e2]; exact h t

end Go.AM
/- Loops over maps: what the rounds are. -/
namespace Go.AM
noncomputable section
variable {P : Program} {K : Known}

/-- a round -/
structure RD where
  nx : Nat
  nx' : Nat
  h1 : T AObj
  k : Value
  v : Value
  kx : Value
  x : Value

def Chn : Nat → List RD → Nat → Prop
  | a, [], b => a = b
  | a, r :: R, b => r.nx = a ∧ a ≤ r.nx' ∧ Chn r.nx' R b
theorem Chn.le : ∀ {R : List RD} {a b : Nat}, Chn a R b → a ≤ b ∧ ∀ r ∈ R, a ≤ r.nx ∧ r.nx ≤ r.nx' ∧ r.nx' ≤ b
  | [], a, b, h => ⟨Nat.le_of_eq h, fun r hr => by simp at hr⟩
  | r :: R, a, b, ⟨h1, h2, h3⟩ => by
    obtain ⟨q1, q2⟩ := Chn.le h3
    refine ⟨by omega, fun r' hr => ?_⟩
    rcases List.mem_cons.1 hr with rfl | hr
    · exact ⟨by omega, by omega, q1⟩
    · have := q2 r' hr; omega
theorem Chn.apart : ∀ {R : List RD} {a b : Nat}, Chn a R b → R.Pairwise fun r r' => r.nx' ≤ r'.nx
  | [], _, _, _ => .nil
  | r :: R, a, b, ⟨h1, h2, h3⟩ => .cons (fun r' hr => ((h3.le).2 r' hr).1) h3.apart

theorem copyR_get {src : T AObj} : ∀ (n i : Nat) (h : T AObj) (id : Nat), (copyR src n i h).get id = if i ≤ id ∧ id < i + n then src.get id else h.get id
  | 0, i, h, id => by simp only [copyR]; rw [if_neg (by omega)]
  | n + 1, i, h, id => by
    simp only [copyR]
    rw [copyR_get n (Nat.succ i)]
    by_cases h1 : Nat.succ i ≤ id ∧ id < Nat.succ i + n
    · rw [if_pos h1, if_pos (by omega)]
    · rw [if_neg h1, T.get_setF _ _ _ _ _ (Nat.lt_succ_self i)]
      by_cases h2 : id = i
      · subst h2; rw [if_pos rfl, if_pos (by omega)]
      · rw [if_neg h2, if_neg (by omega)]

def RdOk2 (P : Program) (K : Known) (fn nt : Nat) (g0 : T Value) (p : Pat) (h0 : T AObj) (m0 : Nat) (kk : KeyKind) (r : RD) : Prop :=
  round1 P K fn nt g0 p h0 r.nx m0 r.k r.v = some (r.h1, r.nx', r.kx, r.x) ∧ keyOk kk r.kx = true

def newEs (R : List RD) : List (Value × Value) := R.map fun r => (r.kx, r.x)

theorem rounds_spec {fn nt : Nat} {g0 : T Value} {p : Pat} {h0 : T AObj} {m0 : Nat} {kk : KeyKind} : ∀ {l : List (Value × Value)} {nx : Nat} {es : List (Value × Value)} {h : T AObj} {nx' : Nat} {es' : List (Value × Value)} {h' : T AObj},
    rounds P K fn nt g0 p h0 m0 kk l nx es h = some (nx', es', h') → es.Pairwise (fun a b => KeyNe a.1 b.1) →
    ∃ R : List RD, (R ≠ [] → ∀ q ∈ es, keyOk kk q.1 = true) ∧ R.map (fun r => (r.k, r.v)) = l ∧ (∀ r ∈ R, RdOk2 P K fn nt g0 p h0 m0 kk r) ∧ Chn nx R nx' ∧ es' = es ++ newEs R ∧ es'.Pairwise (fun a b => KeyNe a.1 b.1) ∧
      (∀ r ∈ R, ∀ id, r.nx ≤ id → id < r.nx' → h'.get id = r.h1.get id) ∧ (∀ id, (id < nx ∨ nx' ≤ id) → h'.get id = h.get id)
  | [], nx, es, h, nx', es', h', hr, hp => by
    simp only [rounds, Option.some.injEq, Prod.mk.injEq] at hr
    obtain ⟨rfl, rfl, rfl⟩ := hr
    exact ⟨[], fun x => absurd rfl x, rfl, fun r hr => by simp at hr, rfl, by simp [newEs], hp, fun r hr => by simp at hr, fun _ _ => rfl⟩
  | (k, v) :: l, nx, es, h, nx', es', h', hr, hp => by
    simp only [rounds] at hr
    cases h1 : round1 P K fn nt g0 p h0 nx m0 k v with
    | none => simp [h1] at hr
    | some q =>
      obtain ⟨hh, n1, kx, x⟩ := q
      simp only [h1] at hr
      cases hc : Nat.ble nx n1 && keyOk kk kx with
      | false => rw [hc] at hr; cases hr
      | true =>
        rw [hc] at hr; simp only [cond_true] at hr
        simp only [Bool.and_eq_true, Nat.ble_eq] at hc
        cases hpk : putK kk kx x es with
        | none => simp [hpk] at hr
        | some q =>
          obtain ⟨nw, es1⟩ := q
          cases nw with
          | false => simp [hpk] at hr
          | true =>
            simp only [hpk] at hr
            have hk : ∀ q ∈ es, keyOk kk q.1 = true := keys_ok hp (putK_first hpk)
            rcases putK_spec hc.2 hpk hk with ⟨_, e1, e2⟩ | ⟨e, _⟩
            · subst e1
              have hp1 : (es ++ [(kx, x)]).Pairwise (fun a b => KeyNe a.1 b.1) := by
                rw [List.pairwise_append]
                refine ⟨hp, List.pairwise_singleton _ _, fun a ha b hb => ?_⟩
                simp at hb; subst hb
                exact (e2 a ha).symm
              obtain ⟨R, _, q1, q2, q3, q4, q5, q6, q7⟩ := rounds_spec hr hp1
              refine ⟨⟨nx, n1, hh, k, v, kx, x⟩ :: R, fun _ => hk, by simp [q1], ?_, ⟨rfl, hc.1, q3⟩, ?_, q5, ?_, ?_⟩
              · intro r hr
                rcases List.mem_cons.1 hr with rfl | hr
                · exact ⟨h1, hc.2⟩
                · exact q2 r hr
              · rw [q4]; simp [newEs]
              · intro r hr id ha hb
                rcases List.mem_cons.1 hr with rfl | hr
                · have hb' : id < n1 := hb
                  have ha' : nx ≤ id := ha
                  rw [q7 id (.inl hb'), copyR_get, if_pos (by simp only [Nat.sub_eq]; omega)]
                · exact q6 r hr id ha hb
              · intro id hid
                have := q3.le.1
                rw [q7 id (by omega), copyR_get, if_neg (by simp only [Nat.sub_eq]; omega)]
            · cases e

/-! ### the iterator -/

theorem next_run {w : World} {rb mb c : Nat} {seen : Array Nat} {es : Array MapEntry} (hr : w.heap[rb]? = some (.mapIter (some mb) c seen c)) (hm : w.heap[mb]? = some (.map es c)) (hb : ∀ e ∈ es.toList, e.born < c) (t : TypeId) :
    ((∀ e ∈ es.toList, seen.contains e.born = true) ∧ ∃ w', (Instr.next (.pointer (some ⟨rb, 0, none⟩)) false t).run P w = .ok (.tuple #[.bool false]) w' ∧ WSame w w') ∨
    (∃ e ∈ es.toList, seen.contains e.born = false ∧ ∃ w', (Instr.next (.pointer (some ⟨rb, 0, none⟩)) false t).run P w = .ok (.tuple #[.bool true, e.key, e.val]) w' ∧ WPut w w' rb (.mapIter (some mb) c (seen.push e.born) c)) := by
  have hnoneed : (!seen.isEmpty && !es.isEmpty && es.all (·.born ≥ c)) = false := by
    cases he : es.isEmpty with
    | true => simp
    | false =>
      have hne : es.toList ≠ [] := by
        intro h
        rw [Array.isEmpty_eq_false_iff] at he
        exact he (Array.toList_eq_nil_iff.1 h)
      obtain ⟨e, l, hl⟩ := List.exists_cons_of_ne_nil hne
      have : es.all (·.born ≥ c) = false := by
        rw [← Array.all_toList, hl]
        have := hb e (by rw [hl]; simp)
        simp only [List.all_cons, Bool.and_eq_false_iff, decide_eq_false_iff_not]
        exact .inl (by omega)
      simp [this]
  have hold : (es.filter fun e => !seen.contains e.born).filter (fun e => decide (e.born < c)) = es.filter fun e => !seen.contains e.born := by
    rw [Array.filter_eq_self]
    intro e he
    rw [Array.mem_filter] at he
    simpa using hb e (by simpa using he.1)
  have hnew : (es.filter fun e => !seen.contains e.born).filter (fun e => decide (e.born ≥ c)) = #[] := by
    rw [Array.filter_eq_empty_iff]
    intro e he
    rw [Array.mem_filter] at he
    have := hb e (by simpa using he.1)
    simp; omega
  generalize hleft : (es.filter fun e => !seen.contains e.born) = left at hold hnew
  have hgr := run_getObj_iter (P := P) hr
  have hgm := run_getObj_map (P := P) hm
  by_cases hem : left.isEmpty = true
  · left
    have hl0 : left = #[] := Array.isEmpty_iff.1 hem
    refine ⟨?_, w, ?_, WSame.refl w⟩
    · intro e he
      cases hs : seen.contains e.born with
      | true => rfl
      | false =>
        have : e ∈ left := by rw [← hleft, Array.mem_filter]; exact ⟨by simpa using he, by simp only [hs]; rfl⟩
        rw [hl0] at this; simp at this
    · simp only [Instr.next, Sem.run_bind, hgr, Result.andThen_ok, hgm, hnoneed, Bool.false_eq_true, if_false, hleft, hold, hnew, hl0]
      simp [Question.forced]
  · right
    have hem' : left.isEmpty = false := by simpa using hem
    have hcand : ∀ w1 : World, ∃ e ∈ left.toList, ∃ n w2, (choose (.mapNext (left.map some).size)).run P w1 = .ok n w2 ∧ WSame w1 w2 ∧ (left.map some)[n]? = some (some e) := by
      intro w1
      have hpos : 0 < left.size := by
        rcases Nat.eq_zero_or_pos left.size with h0 | h0
        · exact absurd (by simp [Array.size_eq_zero_iff.1 h0]) hem
        · exact h0
      by_cases hf : left.size ≤ 1
      · have h1 : left.size = 1 := by omega
        refine ⟨left[0], by simp, 0, w1, ?_, WSame.refl _, by simp [hpos]⟩
        simp [choose, Question.forced, Sem.run, h1]
      · have hlt : (w1.tape w1.drawn (.mapNext left.size)) % left.size < left.size := Nat.mod_lt _ hpos
        refine ⟨left[(w1.tape w1.drawn (.mapNext left.size)) % left.size], by simp, (w1.tape w1.drawn (.mapNext left.size)) % left.size, { w1 with drawn := w1.drawn + 1 }, ?_, ⟨rfl, rfl, rfl, rfl⟩, by simp [hlt]⟩
        simp [choose, Question.forced, Sem.run, Question.cut, hf]
    obtain ⟨e, he, n, w2, h1, h2, h3⟩ := hcand w
    have heL : e ∈ es.toList ∧ seen.contains e.born = false := by
      have : e ∈ left := by simpa using he
      rw [← hleft, Array.mem_filter] at this
      refine ⟨by simpa using this.1, ?_⟩
      have := this.2
      simpa using this
    have hr2 : w2.heap[rb]? = some (.mapIter (some mb) c seen c) := by rw [h2.heap]; exact hr
    obtain ⟨s1, s2⟩ := setObj_run (P := P) (o1 := .mapIter (some mb) c (seen.push e.born) c) hr2 (fun _ _ _ h => by cases h)
    refine ⟨e, heL.1, heL.2, _, ?_, ⟨s2.at_, fun b hb => by rw [s2.other b hb, h2.heap], by rw [s2.size, h2.heap], by rw [s2.os, h2.os], by rw [s2.out, h2.out], by rw [s2.tape, h2.tape]⟩⟩
    simp only [Instr.next, Sem.run_bind, hgr, Result.andThen_ok, hgm, hnoneed, Bool.false_eq_true, if_false, hleft, hold, hnew, hem', Array.empty_append, Array.append_empty]
    have h1' : (choose (.mapNext (left.map some).size)).run P w = .ok n w2 := h1
    have hca : ((#[] : Array (Option MapEntry)) ++ left.map some) = left.map some := by simp
    simp only [hca, h1', Result.andThen_ok, h3, Sem.run_bind, s1, Sem.run_pure]

theorem entry_run {w : World} {rb mb c : Nat} {seen : Array Nat} {es : Array MapEntry} {e : MapEntry} (hr : w.heap[rb]? = some (.mapIter (some mb) c (seen.push e.born) c)) (hm : w.heap[mb]? = some (.map es c)) (he : e ∈ es.toList)
    (hnd : (es.toList.map (·.born)).Nodup) : (Instr.entry (.pointer (some ⟨rb, 0, none⟩))).run P w = .ok (.tuple #[e.key, e.val]) w := by
  have hfind : es.find? (·.born == e.born) = some e := by
    rw [← Array.find?_toList]
    have : ∀ l : List MapEntry, e ∈ l → (l.map (·.born)).Nodup → l.find? (·.born == e.born) = some e := by
      intro l
      induction l with
      | nil => intro h; simp at h
      | cons a l ih =>
        intro h hn
        simp only [List.map_cons, List.nodup_cons, List.mem_map, not_exists, not_and] at hn
        rcases List.mem_cons.1 h with rfl | h
        · simp
        · have hne : (a.born == e.born) = false := by
            have := hn.1 e h
            simp only [beq_eq_false_iff_ne, ne_eq]
            exact fun x => this x.symm
          simp only [List.find?_cons, hne]
          exact ih h hn.2
    exact this _ he hnd
  simp only [Instr.entry, Sem.run_bind, run_getObj_iter (P := P) hr, Result.andThen_ok, Array.back?_push, run_getObj_map (P := P) hm, bne_self_eq_false, Bool.false_eq_true, if_false, hfind, Sem.run_pure]

end
end Go.AM
/- Loops over maps: one round. -/
namespace Go.AM
noncomputable section
variable {P : Program} {K : Known} {w0 : Start}

def mergeI (ιd ι1 : Inj) (a b : Nat) : Inj := fun id => if a ≤ id ∧ id < b then ι1 id else ιd id
theorem mergeI_in {ιd ι1 : Inj} {a b id : Nat} (h : a ≤ id ∧ id < b) : mergeI ιd ι1 a b id = ι1 id := by simp [mergeI, h]
theorem mergeI_out {ιd ι1 : Inj} {a b id : Nat} (h : ¬ (a ≤ id ∧ id < b)) : mergeI ιd ι1 a b id = ιd id := by
  unfold mergeI; rw [if_neg h]
theorem Ext.merge_l {ιd ι1 : Inj} {a b : Nat} (h : ∀ id, a ≤ id → id < b → ιd id = none) : Ext ιd (mergeI ιd ι1 a b) := by
  intro id l hl
  rw [mergeI_out]; exact hl
  intro x; rw [h id x.1 x.2] at hl; cases hl

theorem SRel.shift {ι : Inj} {h : T AObj} {n n' lo lo' : Nat} {w : World} (k : SRel P ι ⟨h, n, lo⟩ w) (hle : n ≤ n') : SRel P ι ⟨h, n', lo'⟩ w :=
  ⟨k.obj, fun id hi => k.fresh id (Nat.le_trans hle hi), k.bound, k.alias, k.par⟩

/-- what a round comes to -/
structure Rnd (P : Program) (ι : Inj) (h0 : T AObj) (n : Nat) (w : World) (X : Nat) (ι2 : Inj) (s2 : S) (w2 : World) : Prop where
  ext : Ext ι ι2
  keep : ∀ id, id < n → ι id = none → ι2 id = none
  new : ∀ id l, ι id = none → ι2 id = some l → w.heap.size ≤ l.blk
  heap : ∀ b, b < w.heap.size → b ≠ X → ¬ Owned ι ⟨h0, n, n⟩ b → w2.heap[b]? = w.heap[b]?
  low : ∀ id, id < n → s2.h.get id = h0.get id
  size : w.heap.size ≤ w2.heap.size
  os : w2.os = w.os
  out : w2.output = w.output
  tape : w2.tape = w.tape
  srel : SRel P ι2 s2 w2

theorem finish_nt {fr fr2 : Fr} {v : Value} (h : finish fr v = some fr2) : True := trivial

theorem keyOk_kind {kk kk' : KeyKind} {x : Value} (h : keyOk kk x = true) (h' : keyOk kk' x = true) : kk = kk' := by
  cases kk with
  | int k =>
    cases x with
    | int a n =>
      cases kk' with
      | int k' =>
        simp only [keyOk, kindEq, decide_eq_true_eq] at h h'
        rw [h, h']
      | str => simp [keyOk] at h'
    | _ => simp [keyOk] at h
  | str =>
    cases x with
    | string s =>
      cases kk' with
      | int k' => simp [keyOk] at h'
      | str => rfl
    | _ => simp [keyOk] at h

theorem putK_new {kk : KeyKind} {k v : Value} (hk : keyOk kk k = true) : ∀ {es : List (Value × Value)}, (∀ q ∈ es, keyOk kk q.1 = true) → (∀ q ∈ es, KeyNe k q.1) → putK kk k v es = some (true, es ++ [(k, v)])
  | [], _, _ => rfl
  | (k', v') :: es, h1, h2 => by
    obtain ⟨b, _, e2, e3, e4⟩ := key_spec hk (h1 (k', v') (by simp))
    have hne : k ≠ k' := (h2 (k', v') (by simp)).ne
    have hb : b = false := by
      cases b with
      | false => rfl
      | true => exact absurd (e3.1 rfl) hne
    subst hb
    simp only [putK, e2]
    rw [putK_new hk (fun q hq => h1 q (by simp [hq])) (fun q hq => h2 q (by simp [hq]))]
    rfl

theorem round_ok (hK : KnownOk P K w0) (hmix : P.follows .mixedOrders = true) {fn nt : Nat} {g0 : T Value} {p : Pat} {h0 : T AObj} {m0 : Nat} {kk : KeyKind} {r : RD} (hr : RdOk2 P K fn nt g0 p h0 m0 kk r)
    {ι : Inj} {w : World} {lm0 : Loc} {kind : CallKind} {tmps tmps0 : Array Value} {ds' : List Deferred} {cs : List Frame} {Kin : List Item}
    (hS : SRel P ι ⟨h0, r.nx, r.nx⟩ w) (hini : Ini w0 ι ⟨h0, r.nx, r.nx⟩ w) (hX0 : w0.heap.size ≤ lm0.blk) (hdead : ∀ id l o, ι id = some l → l.blk = lm0.blk → h0.get id = some o → id ≠ m0 → Dead o)
    (him0 : ι m0 = some lm0) (hgm0 : h0.get m0 = some .hole) (hm0 : m0 < r.nx) (hfunc : ∃ f, P.funcs[fn]? = some f) (hops : p.all.toList.drop 1 = p.ops) (hal : 1 ≤ p.all.size)
    (ht : TmpRel ι (startG p g0 r.k r.v) tmps) (hn : tmps.size = nt) (ht0 : TmpRel ι g0 tmps0) (hn0 : tmps0.size = nt)
    -- the map that is stored into
    {ιd : Inj} {esd : List (Value × Value)} {dclk : Nat} {dE : Array MapEntry} (hdm : w.heap[lm0.blk]? = some (.map dE dclk)) (hdr : ORel P ιd lm0 (.map esd dclk) (.map dE dclk)) (hιd : Ext ι ιd)
    (hιn : ∀ id, r.nx ≤ id → id < r.nx' → ιd id = none) (hks : ∀ q ∈ esd, keyOk kk q.1 = true) (hnew : ∀ q ∈ esd, KeyNe r.kx q.1) :
    ∃ ι2 s2 w2 tmps', Steps P (lone (mkF fn ⟨kind, none⟩ tmps ds' (.inRegion p.all (List.range' 1 (p.all.size - 1)) :: .code p.rest :: Kin)) cs w) (lone (mkF fn ⟨kind, none⟩ tmps' ds' Kin) cs w2) ∧
      Rnd P ι h0 r.nx w lm0.blk ι2 s2 w2 ∧ s2.h = r.h1 ∧ s2.nx = r.nx' ∧ TmpRel ι g0 tmps' ∧ tmps'.size = nt ∧
      ∃ dE', w2.heap[lm0.blk]? = some (.map dE' (dclk + 1)) ∧ ORel P (mergeI ιd ι2 r.nx r.nx') lm0 (.map (esd ++ [(r.kx, r.x)]) (dclk + 1)) (.map dE' (dclk + 1)) := by
  obtain ⟨hr, hkk⟩ := hr
  let B : Base := ⟨⟨Kin, ds', none, some (fn, nt, kind)⟩, r.nx, cs⟩
  have hfr : ∀ id, r.nx ≤ id → ι id = none := fun id hi => hS.fresh id hi
  have hR0 : RSt P B w0 ι r.nx B.sf (startFr P fn nt p g0 r.k r.v) [] ⟨h0, r.nx, r.nx⟩ (mkF fn ⟨kind, none⟩ tmps ds' (.inRegion p.all (List.range' 1 (p.all.size - 1)) :: .code p.rest :: Kin)) cs w := by
    refine ⟨.base, ⟨rfl, hfunc, .none, fun x => absurd rfl x, ⟨nofun, fun q hq => by cases hq; exact ⟨rfl, rfl, rfl⟩⟩, hn, .nil, .run, fun _ => .plain ht ?_, fun x => absurd rfl x⟩, hS, Nat.le_refl _, Nat.le_refl _, hini⟩
    simp only [startFr]
    rw [← hops]
    exact .cons (.ops p.all 1 hal) (.cons (.code p.rest) .nil)
  simp only [round1] at hr
  have h1 := runB_ok hK hmix 2000 hR0
  cases hb1 : runB P K 2000 ⟨[startFr P fn nt p g0 r.k r.v], ⟨h0, r.nx, r.nx⟩⟩ with
  | next _ => simp [hb1] at hr
  | idle _ _ => simp [hb1] at hr
  | stop _ _ => simp [hb1] at hr
  | bad _ => simp [hb1] at hr
  | upd fr s1 r0 kx x =>
    rw [hb1] at h1 hr
    simp only [] at hr
    obtain ⟨ι1, w1, kind1, tmps1, ds1, todo1, all1, i1, L1, o1, st1, _, S1, lo1, hb1', ini1, F1, at1, wait1⟩ := h1
    cases hrm : Nat.beq r0 m0 with
    | false => simp [hrm] at hr
    | true =>
      have := Nat.eq_of_beq_eq_true hrm; subst this
      simp only [hrm, cond_true] at hr
      cases hfi : finish fr und with
      | none => simp [hfi] at hr
      | some fr2 =>
        simp only [hfi] at hr
        -- the store
        obtain ⟨t, kt, et, kk', l, k', x', hu, hkk', hkok, hil, hvk, hvx, hnt, hg1, hexec⟩ := at1.post s1.nx (Nat.le_refl _)
        have hl : l = lm0 := by have := F1.ext _ _ him0; rw [this] at hil; cases hil; rfl
        subst hl
        have hno : ¬ Owned ι ⟨h0, r.nx, r.nx⟩ l.blk := by
          rintro ⟨id, l2, o2, a1, a2, a3, a4⟩
          by_cases e : id = r0
          · subst e; rw [hgm0] at a3; cases a3; exact a4
          · have := hdead id l2 o2 a1 a2 a3 e
            cases o2 with
            | blk b => simp only [Dead] at this; simp only [NotHole] at a4; omega
            | _ => exact this
        have hltX : l.blk < w.heap.size := hS.bound _ _ him0
        have hdm1 : w1.heap[l.blk]? = some (.map dE dclk) := by rw [F1.heap _ hltX hno]; exact hdm
        -- what the two say of the map
        have hnx1 := F1.nx
        have hlow1 : s1.lo = r.nx := F1.lo
        let ιM := mergeI ιd ι1 r.nx s1.nx
        obtain ⟨e1, e2, hnle⟩ : kx = r.kx ∧ x = r.x ∧ s1.nx ≤ r.nx' := by
          revert hr
          cases hb2 : runB P K 2000 ⟨[fr2], s1⟩ with
          | idle fr3 s2 =>
            intro hr
            obtain ⟨fa, fb, g1, fc, fd, fe, ff, fg⟩ := fr3
            cases fd with
            | cons _ _ => simp at hr
            | nil =>
              cases fg with
              | some _ => simp at hr
              | none =>
              simp only [] at hr
              cases hkp : keptT g0 g1 nt && Nat.ble s1.nx s2.nx with
              | false => rw [hkp] at hr; cases hr
              | true =>
                rw [hkp] at hr
                simp only [cond_true, Option.some.injEq, Prod.mk.injEq] at hr
                simp only [Bool.and_eq_true, Nat.ble_eq] at hkp
                exact ⟨hr.2.2.1, hr.2.2.2, by omega⟩
          | _ => intro hr; simp at hr
        subst e1 e2
        have hkeq := keyOk_kind hkok hkk
        subst hkeq
        have hx1 : Ext ιd ιM := Ext.merge_l (fun id a b => hιn id a (by omega))
        have hx2 : Ext ι1 ιM := by
          intro id ll hll
          by_cases hin : r.nx ≤ id ∧ id < s1.nx
          · show mergeI ιd ι1 r.nx s1.nx id = some ll
            rw [mergeI_in hin]; exact hll
          · show mergeI ιd ι1 r.nx s1.nx id = some ll
            rw [mergeI_out hin]
            by_cases hlt : id < r.nx
            · cases hi : ι id with
              | none => rw [(F1.keep id hlt hi).1] at hll; cases hll
              | some l3 =>
                have := F1.ext _ _ hi; rw [this] at hll; cases hll
                exact hιd _ _ hi
            · rw [S1.fresh id (by omega)] at hll; cases hll
        have hk'e : k' = r.kx := keyOk_vrel hkok hvk
        subst hk'e
        have hput := putK_new (v := r.x) hkok hks hnew
        have hdrM := hdr.mono hx1
        cases hdrM with
        | map q1 q2 q3 q4 q5 =>
          obtain ⟨res, f1, f2, f3⟩ := map_put_rel (P := P) (v' := x') hkok hput q1 q2 q3 q4 q5 (hvx.mono hx2) hkk' w1 l
          obtain ⟨w2, u1, u2⟩ := run_mapUpdate (P := P) hu hkk' (x := x') hkok hdm1 f1 f2
          generalize hpo : putObj res dE dclk r.kx x' = ob at f3 u2
          have hrun := hexec w1
          rw [u1] at hrun
          have hst2 := st_value (fn := fr.fn) (kind := kind1) (ds := ds1) (L := L1) (k := todo1) (cs := cs) at1.op at1.wanted (v := undef) (.inr ⟨hrun, rfl⟩)
          -- the state behind it
          have S2 : SRel P ι1 s1 w2 := by
            refine S1.touch u2 ?_
            intro id l2 o2 a1 a2 a3
            by_cases e : id = r0
            · subst e; rw [hg1] at a3; cases a3
              rw [hil] at a1; cases a1
              cases f3 with
              | map => exact .hole
            · by_cases hlt : id < r.nx
              · cases hi : ι id with
                | none => rw [(F1.keep id hlt hi).1] at a1; cases a1
                | some l3 =>
                  have := F1.ext _ _ hi; rw [this] at a1; cases a1
                  have hlow := F1.low id hlt
                  rw [hlow] at a3
                  have := hdead id l2 o2 hi a2 a3 e
                  cases o2 with
                  | blk b => obtain ⟨bc, bn, be, bp, bst⟩ := b; exact .dead _ this
                  | _ => exact absurd this (by simp [Dead])
              · exfalso
                have hin := hfr id (by omega)
                rcases F1.new id l2 hin a1 with y | ⟨id3, l3, o3, z1, z2, _⟩
                · omega
                · rw [hfr id3 z1] at z2; cases z2
          have ini2 : Ini w0 ι1 s1 w2 := by
            refine ⟨by rw [u2.size]; exact ini1.size, fun b hb => ?_, ini1.own, by rw [u2.out]; exact ini1.out, by rw [u2.os]; exact ini1.os, by rw [u2.tape]; exact ini1.tape, ini1.pin⟩
            rw [u2.other b (by omega)]; exact ini1.same b hb
          have hT2 := (wait1 ι1 s1 (Fut.refl _ _ _)).1 und undef fr2 (.tuple .nil) hfi
          rw [fin_eq at1.op] at hT2
          have hR2 : RSt P B w0 ι1 r.nx B.sf fr2 [] s1 (mkF fr.fn kind1 (pt tmps1 o1.dst undef) ds1 (.inRegion all1 L1 :: todo1)) cs w2 := ⟨.base, hT2, S2, hb1', lo1, ini2⟩
          have h2 := runB_ok hK hmix 2000 hR2
          cases hb2 : runB P K 2000 ⟨[fr2], s1⟩ with
          | next _ => simp [hb2] at hr
          | upd _ _ _ _ _ => simp [hb2] at hr
          | stop _ _ => simp [hb2] at hr
          | bad _ => simp [hb2] at hr
          | idle fr3 s2 =>
            rw [hb2] at h2 hr
            obtain ⟨ι2, top, w3, e3, e4, st3, R3, F2⟩ := h2
            obtain ⟨fa, fb, g1, fc, fd, fe, ff, fg⟩ := fr3
            cases fd with
            | cons _ _ => simp at hr
            | nil =>
              cases fg with
              | some _ => simp at hr
              | none =>
              simp only [] at hr
              cases hkp : keptT g0 g1 nt && Nat.ble s1.nx s2.nx with
              | false => rw [hkp] at hr; cases hr
              | true =>
                rw [hkp] at hr
                simp only [cond_true, Option.some.injEq, Prod.mk.injEq] at hr
                simp only [Bool.and_eq_true, Nat.ble_eq] at hkp
                obtain ⟨hkp, _⟩ := hkp
                obtain ⟨er1, er2, _, _⟩ := hr
                simp only at e3 e4
                subst e3 e4
                have T3 := R3.top
                obtain ⟨k1, k2, k3⟩ := T3.kind.2 _ rfl
                simp only at k1 k2
                subst k1 k2
                have hmode : top.mode = .run := by
                  have := T3.mode
                  generalize top.mode = mm at this
                  cases this; rfl
                have htd : top.todo = Kin ∧ TmpRel ι2 g1 top.tmps := by
                  have := T3.body rfl
                  simp only at this
                  generalize top.todo = td at this
                  cases this with
                  | plain a b => cases b; exact ⟨rfl, a⟩
                have hdd : top.defers = ds' := by
                  have := T3.defers
                  generalize top.defers = td at this
                  cases this; rfl
                have htop : top = mkF fa ⟨kind, none⟩ top.tmps ds' Kin := by
                  have := frame_eta top hmode
                  rw [T3.fn, k3, hdd, htd.1, T3.rnd.isNone] at this
                  exact this
                rw [htop] at st3
                have hxx : Ext ι ι2 := F1.ext.trans F2.ext
                have hs1sz : w1.heap.size = w2.heap.size := u2.size.symm
                refine ⟨ι2, s2, w3, top.tmps, st1.trans (.head hst2 st3), ?_, er1, er2, ?_, T3.size, ?_⟩
                · refine ⟨hxx, fun id hi hn => (F2.keep id hi (F1.keep id hi hn).1).1, ?_, ?_, ?_, ?_, ?_, ?_, ?_, R3.srel⟩
                  · intro id ll hn hs
                    cases hi1 : ι1 id with
                    | some l1 =>
                      have := F2.ext _ _ hi1; rw [this] at hs; cases hs
                      rcases F1.new id ll hn hi1 with y | ⟨id3, l3, o3, z1, z2, _⟩
                      · exact y
                      · rw [hfr id3 z1] at z2; cases z2
                    | none =>
                      have hsz := F1.size
                      rcases F2.new id ll hi1 hs with y | ⟨id3, l3, o3, z1, z2, z3, _⟩
                      · omega
                      · rw [hlow1] at z1
                        rw [← z3]
                        rcases F1.new id3 l3 (hfr id3 z1) z2 with y | ⟨id4, l4, o4, y1, y2, _⟩
                        · exact y
                        · rw [hfr id4 y1] at y2; cases y2
                  · intro b hb hne hno2
                    have hsz := F1.size
                    have hno1 : ¬ Owned ι1 s1 b := fun hh => hno2 (F1.own b hb hh)
                    rw [F2.heap b (by omega) hno1, u2.other b hne, F1.heap b hb hno2]
                  · intro id hi
                    rw [F2.low id (by omega), F1.low id hi]
                  · have := F1.size; have := F2.size; omega
                  · rw [F2.os, u2.os, F1.os]
                  · rw [F2.out, u2.out, F1.out]
                  · rw [F2.tape, u2.tape, F1.tape]
                · exact kept_rel hxx hn0 T3.size ht0 htd.2 hkp
                · have hno1 : ¬ Owned ι1 s1 l.blk := fun hh => hno (F1.own _ hltX hh)
                  have hsz := F1.size
                  have hobj : w3.heap[l.blk]? = w2.heap[l.blk]? := F2.heap _ (by omega) hno1
                  have hxM : Ext ιM (mergeI ιd ι2 r.nx r.nx') := by
                    intro id ll hll
                    have hnx2 := F2.nx
                    have hll' : mergeI ιd ι1 r.nx s1.nx id = some ll := hll
                    by_cases hin : r.nx ≤ id ∧ id < s1.nx
                    · rw [mergeI_in hin] at hll'
                      rw [mergeI_in (by omega)]
                      exact F2.ext _ _ hll'
                    · rw [mergeI_out hin] at hll'
                      rw [mergeI_out]
                      · exact hll'
                      · intro hin2
                        rw [hιn id hin2.1 hin2.2] at hll'; cases hll'
                  have hfin := f3.mono hxM
                  have hat := u2.at_
                  simp only [cond_true] at hfin
                  cases hfin with
                  | map a1 a2 a3 a4 a5 =>
                    exact ⟨_, by rw [hobj]; exact hat, .map a1 a2 a3 a4 a5⟩

end
end Go.AM
/- Loops over maps: all rounds, in whatever order. -/
namespace Go.AM
noncomputable section
variable {P : Program} {K : Known} {w0 : Start}

/-- what is no row of cells has its block for itself -/
theorem SRel.alone {ι : Inj} {s : S} {w : World} (h : SRel P ι s w) {a b : Nat} {la lb : Loc} {oa ob : AObj} (ia : ι a = some la) (ib : ι b = some lb) (hne : a ≠ b) (hbl : la.blk = lb.blk) (ga : s.h.get a = some oa) (gb : s.h.get b = some ob)
    (hnb : ∀ x, oa ≠ .blk x) : Dead ob := by
  have hnd : ¬ Dead oa := by cases oa <;> first | exact absurd rfl (hnb _) | simp [Dead]
  have hnp : ∀ p, ¬ Par oa p := by intro p; cases oa <;> first | exact absurd rfl (hnb _) | simp [Par]
  rcases h.alias a b la lb oa ob hne ia ib hbl ga gb with x | x | x | x
  · exact absurd x hnd
  · exact x
  · exact absurd x (hnp _)
  · by_cases hd : Dead ob
    · exact hd
    · obtain ⟨_, y⟩ := h.par b ob a gb (by rw [ib]; simp) hd x
      obtain ⟨bb, e, _⟩ := y _ ga
      exact absurd e (hnb _)

theorem dead_not {o : AObj} (h : Dead o) : ¬ NotHole o := by
  cases o with
  | blk b => simp only [Dead] at h; simp only [NotHole]; omega
  | _ => exact absurd h (by simp [Dead])

theorem innerH_get (h : T AObj) (r m m0 id : Nat) : (innerH h r m m0).get id = if id = m0 then some .hole else if id = m then some .hole else if id = r then none else h.get id := by
  unfold innerH
  rw [T.get_set, T.get_set, T.get_setF _ _ _ _ _ (Nat.lt_succ_self r)]

structure LCtx (P : Program) (K : Known) (w0 : Start) (fn nt : Nat) (g0 : T Value) (p : Pat) (ι : Inj) (s : S) (ws : World) (r m m0 : Nat) (lr lm lm0 : Loc) (c c0 : Nat) (srcE : Array MapEntry) (es0 : List (Value × Value)) (kk : KeyKind)
    (Z : List (RD × MapEntry)) (nxE : Nat) : Prop where
  srel : SRel P ι s ws
  lo : s.lo ≤ s.nx
  ini : Ini w0 ι s ws
  ir : ι r = some lr
  im : ι m = some lm
  im0 : ι m0 = some lm0
  gr : s.h.get r = some (.iter (some m) c)
  gm : ∃ es, s.h.get m = some (.map es c)
  gm0 : s.h.get m0 = some (.map es0 c0)
  base : lr.base = 0
  ne : m ≠ m0
  iter : ws.heap[lr.blk]? = some (.mapIter (some lm.blk) c #[] c)
  src : ws.heap[lm.blk]? = some (.map srcE c)
  born : ∀ e ∈ srcE.toList, e.born < c
  nodup : (srcE.toList.map (·.born)).Nodup
  ks : Z ≠ [] → ∀ q ∈ es0, keyOk kk q.1 = true
  zrel : ∀ z ∈ Z, VRel ι z.1.k z.2.key ∧ VRel ι z.1.v z.2.val
  zperm : (Z.map (·.2)).Perm srcE.toList
  rd : ∀ z ∈ Z, RdOk2 P K fn nt g0 p (innerH s.h r m m0) m0 kk z.1
  chn : Chn s.nx (Z.map (·.1)) nxE
  pw : (es0 ++ newEs (Z.map (·.1))).Pairwise (fun a b => KeyNe a.1 b.1)

structure LI (P : Program) (g0 : T Value) (nt : Nat) (ι : Inj) (s : S) (ws : World) (r m m0 : Nat) (lr lm : Loc) (c c0 : Nat) (srcE : Array MapEntry) (es0 : List (Value × Value)) (nxE : Nat) (Zd : List (RD × MapEntry)) (ιd : Inj) (hd : T AObj) (w : World) (tmps : Array Value) : Prop where
  srel : SRel P ιd ⟨hd, nxE, s.lo⟩ w
  inner : SRel P ι ⟨innerH s.h r m m0, s.nx, s.nx⟩ w
  low : ∀ id, id < s.nx → ιd id = ι id
  get : ∀ id, id < s.nx → id ≠ r → id ≠ m0 → hd.get id = s.h.get id
  getr : hd.get r = none
  getm0 : hd.get m0 = some (.map (es0 ++ newEs (Zd.map (·.1))) (c0 + Zd.length))
  hi : ∀ id l, s.nx ≤ id → ιd id = some l → ws.heap.size ≤ l.blk ∧ ∃ z ∈ Zd, z.1.nx ≤ id ∧ id < z.1.nx'
  own : ∀ z ∈ Zd, ∀ id, z.1.nx ≤ id → id < z.1.nx' → hd.get id = z.1.h1.get id
  iter : w.heap[lr.blk]? = some (.mapIter (some lm.blk) c (Zd.map (·.2.born)).toArray c)
  src : w.heap[lm.blk]? = some (.map srcE c)
  heap : ∀ b, b < ws.heap.size → ¬ Owned ι s b → w.heap[b]? = ws.heap[b]?
  size : ws.heap.size ≤ w.heap.size
  os : w.os = ws.os
  out : w.output = ws.output
  tape : w.tape = ws.tape
  trel : TmpRel ι g0 tmps
  tsz : tmps.size = nt

section
variable {fn nt : Nat} {g0 : T Value} {p : Pat} {ι : Inj} {s : S} {ws : World} {r m m0 : Nat} {lr lm lm0 : Loc} {c c0 : Nat} {srcE : Array MapEntry} {es0 : List (Value × Value)} {kk : KeyKind} {Z : List (RD × MapEntry)} {nxE : Nat}

theorem LCtx.lt_nx (h : LCtx P K w0 fn nt g0 p ι s ws r m m0 lr lm lm0 c c0 srcE es0 kk Z nxE) {id : Nat} {l : Loc} (hi : ι id = some l) : id < s.nx := by
  rcases Nat.lt_or_ge id s.nx with x | x
  · exact x
  · rw [h.srel.fresh id x] at hi; cases hi
theorem LCtx.rm (h : LCtx P K w0 fn nt g0 p ι s ws r m m0 lr lm lm0 c c0 srcE es0 kk Z nxE) : r ≠ m := fun e => by
  obtain ⟨es, hm⟩ := h.gm
  have := h.gr; rw [e, hm] at this; cases this
theorem LCtx.rm0 (h : LCtx P K w0 fn nt g0 p ι s ws r m m0 lr lm lm0 c c0 srcE es0 kk Z nxE) : r ≠ m0 := fun e => by
  have := h.gr; rw [e, h.gm0] at this; cases this
theorem LCtx.dst (h : LCtx P K w0 fn nt g0 p ι s ws r m m0 lr lm lm0 c c0 srcE es0 kk Z nxE) : ∃ dE, ws.heap[lm0.blk]? = some (.map dE c0) := by
  obtain ⟨o, a, b⟩ := h.srel.obj _ _ _ h.im0 h.gm0
  cases b; exact ⟨_, a⟩
theorem LCtx.blk_rm (h : LCtx P K w0 fn nt g0 p ι s ws r m m0 lr lm lm0 c c0 srcE es0 kk Z nxE) : lr.blk ≠ lm.blk := fun e => by
  have := h.iter; rw [e, h.src] at this; cases this
theorem LCtx.blk_rm0 (h : LCtx P K w0 fn nt g0 p ι s ws r m m0 lr lm lm0 c c0 srcE es0 kk Z nxE) : lr.blk ≠ lm0.blk := fun e => by
  obtain ⟨dE, hd⟩ := h.dst
  have := h.iter; rw [e, hd] at this; cases this
theorem LCtx.blk_mm0 (h : LCtx P K w0 fn nt g0 p ι s ws r m m0 lr lm lm0 c c0 srcE es0 kk Z nxE) : lm.blk ≠ lm0.blk := fun e => by
  obtain ⟨es, hm⟩ := h.gm
  have := h.srel.alone h.im h.im0 h.ne e hm h.gm0 (by intro x; simp)
  simp [Dead] at this

/-- who lies in one of the three blocks is gone -/
theorem LCtx.inner_dead (h : LCtx P K w0 fn nt g0 p ι s ws r m m0 lr lm lm0 c c0 srcE es0 kk Z nxE) {b : Nat} (hb : b = lr.blk ∨ b = lm.blk ∨ b = lm0.blk) {id : Nat} {l : Loc} {o : AObj} (hi : ι id = some l) (hl : l.blk = b)
    (hg : (innerH s.h r m m0).get id = some o) : o = .hole ∨ Dead o := by
  rw [innerH_get] at hg
  by_cases e1 : id = m0
  · rw [if_pos e1] at hg; cases hg; exact .inl rfl
  · rw [if_neg e1] at hg
    by_cases e2 : id = m
    · rw [if_pos e2] at hg; cases hg; exact .inl rfl
    · rw [if_neg e2] at hg
      by_cases e3 : id = r
      · rw [if_pos e3] at hg; cases hg
      · rw [if_neg e3] at hg
        obtain ⟨es, hm⟩ := h.gm
        refine .inr ?_
        rcases hb with e | e | e
        · exact h.srel.alone h.ir hi (Ne.symm e3) (by rw [hl, e]) h.gr hg (by intro x; simp)
        · exact h.srel.alone h.im hi (Ne.symm e2) (by rw [hl, e]) hm hg (by intro x; simp)
        · exact h.srel.alone h.im0 hi (Ne.symm e1) (by rw [hl, e]) h.gm0 hg (by intro x; simp)
theorem LCtx.not_owned (h : LCtx P K w0 fn nt g0 p ι s ws r m m0 lr lm lm0 c c0 srcE es0 kk Z nxE) {b : Nat} (hb : b = lr.blk ∨ b = lm.blk ∨ b = lm0.blk) {n lo : Nat} : ¬ Owned ι ⟨innerH s.h r m m0, n, lo⟩ b := by
  rintro ⟨id, l, o, a1, a2, a3, a4⟩
  rcases h.inner_dead hb a1 a2 a3 with e | e
  · rw [e] at a4; exact a4
  · exact dead_not e a4
theorem LCtx.owned_of (h : LCtx P K w0 fn nt g0 p ι s ws r m m0 lr lm lm0 c c0 srcE es0 kk Z nxE) {b n lo : Nat} (ho : Owned ι ⟨innerH s.h r m m0, n, lo⟩ b) : Owned ι s b := by
  obtain ⟨id, l, o, a1, a2, a3, a4⟩ := ho
  simp only at a3
  rw [innerH_get] at a3
  by_cases e1 : id = m0
  · rw [if_pos e1] at a3; cases a3; exact a4.elim
  · rw [if_neg e1] at a3
    by_cases e2 : id = m
    · rw [if_pos e2] at a3; cases a3; exact a4.elim
    · rw [if_neg e2] at a3
      by_cases e3 : id = r
      · rw [if_pos e3] at a3; cases a3
      · rw [if_neg e3] at a3; exact ⟨id, l, o, a1, a2, a3, a4⟩
theorem LCtx.owned (h : LCtx P K w0 fn nt g0 p ι s ws r m m0 lr lm lm0 c c0 srcE es0 kk Z nxE) {b : Nat} (hb : b = lr.blk ∨ b = lm0.blk) : Owned ι s b := by
  rcases hb with e | e
  · exact ⟨r, lr, _, h.ir, e.symm, h.gr, trivial⟩
  · exact ⟨m0, lm0, _, h.im0, e.symm, h.gm0, trivial⟩
theorem LCtx.ge (h : LCtx P K w0 fn nt g0 p ι s ws r m m0 lr lm lm0 c c0 srcE es0 kk Z nxE) {b : Nat} (hb : b = lr.blk ∨ b = lm0.blk) : w0.heap.size ≤ b := by
  rcases Nat.lt_or_ge b w0.heap.size with x | x
  · exact absurd (h.owned hb) (h.ini.own b x)
  · exact x

/-- what the rounds see -/
theorem LCtx.inner0 (h : LCtx P K w0 fn nt g0 p ι s ws r m m0 lr lm lm0 c c0 srcE es0 kk Z nxE) : SRel P ι ⟨innerH s.h r m m0, s.nx, s.nx⟩ ws := by
  obtain ⟨es, hm⟩ := h.gm
  have hget : ∀ id o, (innerH s.h r m m0).get id = some o → (o = .hole ∧ (id = m ∨ id = m0)) ∨ (s.h.get id = some o ∧ id ≠ r ∧ id ≠ m ∧ id ≠ m0) := by
    intro id o hg
    rw [innerH_get] at hg
    by_cases e1 : id = m0
    · rw [if_pos e1] at hg; cases hg; exact .inl ⟨rfl, .inr e1⟩
    · rw [if_neg e1] at hg
      by_cases e2 : id = m
      · rw [if_pos e2] at hg; cases hg; exact .inl ⟨rfl, .inl e2⟩
      · rw [if_neg e2] at hg
        by_cases e3 : id = r
        · rw [if_pos e3] at hg; cases hg
        · rw [if_neg e3] at hg; exact .inr ⟨hg, e3, e2, e1⟩
  refine ⟨?_, h.srel.fresh, h.srel.bound, ?_, ?_⟩
  · intro id l o hi hg
    rcases hget id o hg with ⟨rfl, e | e⟩ | ⟨x, _⟩
    · subst e; rw [h.im] at hi; cases hi; exact ⟨_, h.src, .hole⟩
    · subst e; rw [h.im0] at hi; cases hi
      obtain ⟨dE, hd⟩ := h.dst
      exact ⟨_, hd, .hole⟩
    · exact h.srel.obj id l o hi x
  · intro id1 id2 l1 l2 o1 o2 hne i1 i2 hbl g1 g2
    rcases hget id1 o1 g1 with ⟨rfl, e⟩ | ⟨x, x1, x2, x3⟩
    · rcases hget id2 o2 g2 with ⟨rfl, e'⟩ | ⟨y, _⟩
      · exfalso
        rcases e with rfl | rfl <;> rcases e' with rfl | rfl
        · exact hne rfl
        · rw [h.im] at i1; rw [h.im0] at i2; cases i1; cases i2; exact h.blk_mm0 hbl
        · rw [h.im0] at i1; rw [h.im] at i2; cases i1; cases i2; exact h.blk_mm0 hbl.symm
        · exact hne rfl
      · rcases e with rfl | rfl
        · exact .inr (.inl (h.srel.alone i1 i2 hne hbl hm y (by intro x; simp)))
        · exact .inr (.inl (h.srel.alone i1 i2 hne hbl h.gm0 y (by intro x; simp)))
    · rcases hget id2 o2 g2 with ⟨rfl, e'⟩ | ⟨y, _⟩
      · rcases e' with rfl | rfl
        · exact .inl (h.srel.alone i2 i1 (Ne.symm hne) hbl.symm hm x (by intro x; simp))
        · exact .inl (h.srel.alone i2 i1 (Ne.symm hne) hbl.symm h.gm0 x (by intro x; simp))
      · exact h.srel.alias id1 id2 l1 l2 o1 o2 hne i1 i2 hbl x y
  · intro id o q hg hi hd hp
    rcases hget id o hg with ⟨rfl, _⟩ | ⟨x, _⟩
    · simp [Par] at hp
    · obtain ⟨y1, y2⟩ := h.srel.par id o q x hi hd hp
      refine ⟨y1, fun o' ho' => ?_⟩
      rcases hget q o' ho' with ⟨rfl, e | e⟩ | ⟨z, _⟩
      · subst e; obtain ⟨b, e, _⟩ := y2 _ hm; cases e
      · subst e; obtain ⟨b, e, _⟩ := y2 _ h.gm0; cases e
      · exact y2 o' z

theorem newEs_append (a b : List RD) : newEs (a ++ b) = newEs a ++ newEs b := by simp [newEs]

theorem LI.start (h : LCtx P K w0 fn nt g0 p ι s ws r m m0 lr lm lm0 c c0 srcE es0 kk Z nxE) {tmps : Array Value} (ht : TmpRel ι g0 tmps) (hn : tmps.size = nt) :
    LI P g0 nt ι s ws r m m0 lr lm c c0 srcE es0 nxE [] ι (T.setF (Nat.succ r) s.h r none) ws tmps := by
  have hget : ∀ id, (T.setF (Nat.succ r) s.h r none).get id = if id = r then none else s.h.get id := fun id => T.get_setF _ _ _ _ _ (Nat.lt_succ_self r)
  have hle := h.chn.le.1
  refine ⟨⟨?_, fun id hi => h.srel.fresh id (Nat.le_trans hle hi), h.srel.bound, ?_, ?_⟩, h.inner0, fun _ _ => rfl, fun id _ hr _ => by rw [hget, if_neg hr], by rw [hget, if_pos rfl], ?_, ?_, fun z hz => by simp at hz, h.iter, h.src, fun _ _ _ => rfl, Nat.le_refl _, rfl, rfl, rfl, ht, hn⟩
  · intro id l o hi hg
    simp only at hg; rw [hget] at hg
    by_cases e : id = r
    · rw [if_pos e] at hg; cases hg
    · rw [if_neg e] at hg; exact h.srel.obj id l o hi hg
  · intro id1 id2 l1 l2 o1 o2 hne i1 i2 hb g1 g2
    simp only at g1 g2; rw [hget] at g1 g2
    by_cases e1 : id1 = r
    · rw [if_pos e1] at g1; cases g1
    · by_cases e2 : id2 = r
      · rw [if_pos e2] at g2; cases g2
      · rw [if_neg e1] at g1; rw [if_neg e2] at g2
        exact h.srel.alias id1 id2 l1 l2 o1 o2 hne i1 i2 hb g1 g2
  · intro id o q hg hi hd hp
    simp only at hg; rw [hget] at hg
    by_cases e : id = r
    · rw [if_pos e] at hg; cases hg
    · rw [if_neg e] at hg
      obtain ⟨y1, y2⟩ := h.srel.par id o q hg hi hd hp
      refine ⟨y1, fun o' ho' => ?_⟩
      simp only at ho'; rw [hget] at ho'
      by_cases e2 : q = r
      · rw [if_pos e2] at ho'; cases ho'
      · rw [if_neg e2] at ho'; exact y2 o' ho'
  · rw [hget, if_neg (Ne.symm h.rm0)]; simpa [newEs] using h.gm0
  · intro id l hi hs; rw [h.srel.fresh id hi] at hs; cases hs

/-- the ranges of two rounds lie apart -/
theorem LCtx.apart (h : LCtx P K w0 fn nt g0 p ι s ws r m m0 lr lm lm0 c c0 srcE es0 kk Z nxE) {Zd A B : List (RD × MapEntry)} {z : RD × MapEntry} (hp : (Zd ++ (A ++ z :: B)).Perm Z) :
    s.nx ≤ z.1.nx ∧ z.1.nx ≤ z.1.nx' ∧ z.1.nx' ≤ nxE ∧ ∀ y ∈ Zd, s.nx ≤ y.1.nx ∧ y.1.nx ≤ y.1.nx' ∧ y.1.nx' ≤ nxE ∧ (y.1.nx' ≤ z.1.nx ∨ z.1.nx' ≤ y.1.nx) := by
  have hz : z ∈ Z := hp.mem_iff.1 (by simp)
  have hle := h.chn.le.2
  have h1 := hle z.1 (List.mem_map_of_mem hz)
  refine ⟨h1.1, h1.2.1, h1.2.2, fun y hy => ?_⟩
  have hyZ : y ∈ Z := hp.mem_iff.1 (by simp [hy])
  have h2 := hle y.1 (List.mem_map_of_mem hyZ)
  refine ⟨h2.1, h2.2.1, h2.2.2, ?_⟩
  have hpw : (Z.map (·.1)).Pairwise fun a b => a.nx' ≤ b.nx ∨ b.nx' ≤ a.nx := h.chn.apart.imp fun x => .inl x
  rw [List.pairwise_map] at hpw
  have hpw2 := (List.Perm.pairwise_iff (R := fun a b : RD × MapEntry => a.1.nx' ≤ b.1.nx ∨ b.1.nx' ≤ a.1.nx) (fun {_ _} x => Or.symm x) hp.symm).1 hpw
  rw [List.pairwise_append] at hpw2
  exact hpw2.2.2 y hy z (by simp)

end
end
end Go.AM
