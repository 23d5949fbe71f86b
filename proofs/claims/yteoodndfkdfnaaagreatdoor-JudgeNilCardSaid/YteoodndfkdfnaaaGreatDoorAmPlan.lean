/- What a region's plan says of its order. -/
import Derived.Test.YteoodndfkdfnaaaGreatDoorAmSim1
import Derived.Orders
namespace Go.AM
variable {P : Program}

def Bf (bs : List Nat) (i j : Nat) : Bool := Nat.testBit (bs.getD i 0) j

theorem testBit_two_pow' (a j : Nat) : Nat.testBit (2 ^ a) j = decide (a = j) := Nat.testBit_two_pow ..

theorem befOf_spec {acc : List Nat} {j : Nat} : ∀ (es : List Edge) (m : Nat), Nat.testBit (befOf acc es m) j = true ↔
    (Nat.testBit m j = true ∨ ∃ e ∈ es, Region.binds .any e = true ∧ (j = e.on ∨ Bf acc e.on j = true))
  | [], m => by simp [befOf]
  | e :: es, m => by
    simp only [befOf]
    rw [befOf_spec es]
    cases hb : Region.binds .any e with
    | false => simp [hb]
    | true =>
      simp only [cond_true, List.mem_cons, exists_eq_or_imp, hb, true_and]
      have : ∀ a b, Nat.lor a b = a ||| b := fun _ _ => rfl
      rw [this, this, Nat.testBit_or, Nat.testBit_or, testBit_two_pow']
      simp only [Bool.or_eq_true, decide_eq_true_eq, Bf]
      constructor
      · rintro ((( h | h) | h) | h)
        · exact .inl h
        · exact .inr (.inl (.inl h.symm))
        · exact .inr (.inl (.inr h))
        · exact .inr (.inr h)
      · rintro (h | (h | h) | h)
        · exact .inl (.inl (.inl h))
        · exact .inl (.inl (.inr h.symm))
        · exact .inl (.inr h)
        · exact .inr h

theorem edgesOk_spec {i : Nat} : ∀ {es : List Edge}, edgesOk i es = true → ∀ e ∈ es, Region.binds .any e = true → e.on < i
  | [], _, e, he, _ => by simp at he
  | a :: es, h, e, he, hb => by
    simp only [edgesOk, Bool.and_eq_true, Bool.or_eq_true, Bool.not_eq_true', Nat.blt_eq] at h
    rcases List.mem_cons.1 he with rfl | he
    · rcases h.1 with x | x
      · rw [x] at hb; cases hb
      · exact x
    · exact edgesOk_spec h.2 e he hb

/-- the before-sets, as they come -/
theorem befs_spec : ∀ {ops : List Oper} {acc res : List Nat} {i : Nat}, befs ops i acc = some res → acc.length = i →
    (∀ k, k < i → res.getD k 0 = acc.getD k 0) ∧
    ∀ k o, ops[k]? = some o → (∀ e ∈ o.after.toList, Region.binds .any e = true → e.on < i + k) ∧
      ∀ j, Bf res (i + k) j = true ↔ ∃ e ∈ o.after.toList, Region.binds .any e = true ∧ (j = e.on ∨ Bf res e.on j = true)
  | [], acc, res, i, h, hl => by
    simp only [befs, Option.some.injEq] at h; subst h
    exact ⟨fun _ _ => rfl, fun k o hk => by simp at hk⟩
  | o :: ops, acc, res, i, h, hl => by
    simp only [befs] at h
    cases he : edgesOk i o.after.toList with
    | false => rw [he] at h; cases h
    | true =>
      rw [he] at h; simp only [cond_true] at h
      obtain ⟨h1, h2⟩ := befs_spec h (by simp [hl])
      have hlow : ∀ k, k < i → res.getD k 0 = acc.getD k 0 := fun k hk => by
        rw [h1 k (by omega)]
        simp [List.getD, List.getElem?_append_left (by omega : k < acc.length)]
      have hi : res.getD i 0 = befOf acc o.after.toList 0 := by
        rw [h1 i (by omega)]
        simp [List.getD, ← hl]
      refine ⟨hlow, fun k o' hk => ?_⟩
      cases k with
      | zero =>
        simp only [List.getElem?_cons_zero, Option.some.injEq] at hk; subst hk
        refine ⟨fun e hm hb => edgesOk_spec he e hm hb, fun j => ?_⟩
        simp only [Nat.add_zero, Bf, hi]
        rw [befOf_spec]
        simp only [Nat.zero_testBit, Bool.false_eq_true, false_or]
        constructor
        · rintro ⟨e, a, b, c⟩
          refine ⟨e, a, b, c.imp id fun x => ?_⟩
          rw [hlow _ (edgesOk_spec he e a b)]; exact x
        · rintro ⟨e, a, b, c⟩
          refine ⟨e, a, b, c.imp id fun x => ?_⟩
          rw [hlow _ (edgesOk_spec he e a b)] at x; exact x
      | succ k =>
        have := h2 k o' (by simpa using hk)
        rw [show i + (k + 1) = Nat.succ i + k by omega]
        exact this

theorem distinctD_spec : ∀ {ops : List Oper} {ds : List Tmp}, distinctD ops ds = true →
    (∀ (i : Nat) (o : Oper) (d : Tmp), ops[i]? = some o → o.dst = some d → d ∉ ds) ∧ ∀ (i j : Nat) (o o' : Oper) (d : Tmp), ops[i]? = some o → ops[j]? = some o' → o.dst = some d → o'.dst = some d → i = j
  | [], ds, _ => ⟨fun i o d h => by simp at h, fun i j o o' d h => by simp at h⟩
  | o :: ops, ds, h => by
    simp only [distinctD] at h
    cases hd : o.dst with
    | none =>
      rw [hd] at h
      obtain ⟨h1, h2⟩ := distinctD_spec h
      refine ⟨fun i o' d hi hd' => ?_, fun i j o1 o2 d hi hj h3 h4 => ?_⟩
      · cases i with
        | zero => simp at hi; subst hi; rw [hd] at hd'; cases hd'
        | succ i => exact h1 i o' d (by simpa using hi) hd'
      · cases i with
        | zero => simp at hi; subst hi; rw [hd] at h3; cases h3
        | succ i =>
          cases j with
          | zero => simp at hj; subst hj; rw [hd] at h4; cases h4
          | succ j => rw [h2 i j o1 o2 d (by simpa using hi) (by simpa using hj) h3 h4]
    | some d0 =>
      rw [hd] at h
      simp only [Bool.and_eq_true, Bool.not_eq_true', List.contains_eq_mem, decide_eq_false_iff_not] at h
      obtain ⟨h1, h2⟩ := distinctD_spec h.2
      refine ⟨fun i o' d hi hd' => ?_, fun i j o1 o2 d hi hj h3 h4 => ?_⟩
      · cases i with
        | zero => simp at hi; subst hi; rw [hd] at hd'; cases hd'; exact h.1
        | succ i => exact fun hm => h1 i o' d (by simpa using hi) hd' (List.mem_cons_of_mem _ hm)
      · cases i with
        | zero =>
          cases j with
          | zero => rfl
          | succ j => simp at hi; subst hi; rw [hd] at h3; cases h3; exact absurd (List.mem_cons_self) (h1 j o2 _ (by simpa using hj) h4)
        | succ i =>
          cases j with
          | zero => simp at hj; subst hj; rw [hd] at h4; cases h4; exact absurd (List.mem_cons_self) (h1 i o1 _ (by simpa using hi) h3)
          | succ j => rw [h2 i j o1 o2 d (by simpa using hi) (by simpa using hj) h3 h4]

theorem writer_spec : ∀ {ops : List Oper} {i w : Nat} {t : Tmp} {o : Oper}, (∀ (a b : Nat) (o o' : Oper) (d : Tmp), ops[a]? = some o → ops[b]? = some o' → o.dst = some d → o'.dst = some d → a = b) →
    ops[w]? = some o → o.dst = some t → writer ops i t = some (i + w)
  | [], i, w, t, o, _, h, _ => by simp at h
  | a :: ops, i, w, t, o, hd, h, ht => by
    simp only [writer]
    cases w with
    | zero =>
      simp only [List.getElem?_cons_zero, Option.some.injEq] at h; subst h
      simp [ht]
    | succ w =>
      have h' : ops[w]? = some o := by simpa using h
      have ih := writer_spec (i := Nat.succ i) (fun a b o1 o2 d x y z u => by
        have := hd (a + 1) (b + 1) o1 o2 d (by simpa using x) (by simpa using y) z u
        omega) h' ht
      cases ha : a.dst with
      | none => simp only []; rw [ih]; congr 1; omega
      | some d =>
        simp only []
        cases he : Nat.beq d t with
        | true =>
          have := Nat.eq_of_beq_eq_true he; subst this
          have := hd 0 (w + 1) a o d rfl h ha ht
          omega
        | false => simp only [cond_false]; rw [ih]; congr 1; omega

theorem readsOk_spec {ops : List Oper} {bs : List Nat} {i : Nat} {mv : Bool} : ∀ {ts : List Tmp}, readsOk ops bs i mv ts = true → ∀ t ∈ ts, ∀ w, writer ops 0 t = some w →
    Bf bs i w = true ∨ (mv = true ∧ Bf bs w i = true)
  | [], _, t, h, _, _ => by simp at h
  | a :: ts, h, t, hm, w, hw => by
    simp only [readsOk, Bool.and_eq_true] at h
    rcases List.mem_cons.1 hm with rfl | hm
    · rw [hw] at h
      simp only [Bool.or_eq_true, Bool.and_eq_true] at h
      exact h.1
    · exact readsOk_spec h.2 t hm w hw
theorem allReadsOk_spec {all : Array Oper} {ops : List Oper} {bs : List Nat} : ∀ {l : List Oper} {i : Nat}, allReadsOk all ops bs l i = true → ∀ k o, l[k]? = some o → readsOk ops bs (i + k) (isMv o.op) (reads o all) = true
  | [], i, _, k, o, h => by simp at h
  | a :: l, i, h, k, o, hk => by
    simp only [allReadsOk, Bool.and_eq_true] at h
    cases k with
    | zero => simp at hk; subst hk; exact h.1
    | succ k =>
      have := allReadsOk_spec h.2 k o (by simpa using hk)
      rw [show i + (k + 1) = Nat.succ i + k by omega]; exact this

theorem hardsOf_spec : ∀ {l : List Cl} {i : Nat}, (∀ k c, l[k]? = some c → isHd c.r = true → i + k ∈ hardsOf l i) ∧ ∀ h ∈ hardsOf l i, i ≤ h ∧ ∃ c, l[h - i]? = some c ∧ isHd c.r = true
  | [], i => ⟨fun k c h => by simp at h, fun h hm => by simp [hardsOf] at hm⟩
  | c :: l, i => by
    obtain ⟨h1, h2⟩ := @hardsOf_spec l (Nat.succ i)
    have key : ∀ h ∈ hardsOf l (Nat.succ i), i ≤ h ∧ ∃ c', (c :: l)[h - i]? = some c' ∧ isHd c'.r = true := by
      intro h hm
      obtain ⟨a, c', b, d⟩ := h2 h hm
      refine ⟨by omega, c', ?_, d⟩
      rw [show h - i = (h - Nat.succ i) + 1 by omega]; simpa using b
    simp only [hardsOf]
    cases hc : isHd c.r with
    | true =>
      simp only [cond_true]
      refine ⟨fun k c' hk hh => ?_, fun h hm => ?_⟩
      · cases k with
        | zero => simp
        | succ k =>
          refine List.mem_cons_of_mem _ ?_
          rw [show i + (k + 1) = Nat.succ i + k by omega]
          exact h1 k c' (by simpa using hk) hh
      · rcases List.mem_cons.1 hm with rfl | hm
        · exact ⟨Nat.le_refl _, c, by simp, hc⟩
        · exact key h hm
    | false =>
      simp only [cond_false]
      refine ⟨fun k c' hk hh => ?_, key⟩
      cases k with
      | zero => simp at hk; subst hk; rw [hc] at hh; cases hh
      | succ k =>
        rw [show i + (k + 1) = Nat.succ i + k by omega]
        exact h1 k c' (by simpa using hk) hh

/-- what is known of a plan -/
structure PF (P : Program) (nt : Nat) (all : Array Oper) (bs H : List Nat) : Prop where
  bef : ∀ i o j, all[i]? = some o → (Bf bs i j = true ↔ ∃ e ∈ o.after.toList, Region.binds .any e = true ∧ (j = e.on ∨ Bf bs e.on j = true))
  edge : ∀ i o e, all[i]? = some o → e ∈ o.after.toList → Region.binds .any e = true → e.on < i
  out : ∀ i j, all.size ≤ i → Bf bs i j = false
  dist : ∀ (i j : Nat) (o o' : Oper) (d : Tmp), all[i]? = some o → all[j]? = some o' → o.dst = some d → o'.dst = some d → i = j
  rds : ∀ i o t, all[i]? = some o → t ∈ reads o all → ∀ w o', all[w]? = some o' → o'.dst = some t → Bf bs i w = true ∨ (isMv o.op = true ∧ Bf bs w i = true)
  hard : ∀ i o, all[i]? = some o → isHd (mkCl P nt all o).r = true → i ∈ H
  hard' : ∀ i, i ∈ H → ∃ o, all[i]? = some o ∧ isHd (mkCl P nt all o).r = true
  chain : chained bs H = true

theorem befs_length : ∀ {ops : List Oper} {acc res : List Nat} {i : Nat}, befs ops i acc = some res → res.length = acc.length + ops.length
  | [], acc, res, i, h => by simp only [befs, Option.some.injEq] at h; subst h; simp
  | o :: ops, acc, res, i, h => by
    simp only [befs] at h
    cases he : edgesOk i o.after.toList with
    | false => rw [he] at h; cases h
    | true =>
      rw [he] at h; simp only [cond_true] at h
      have := befs_length h
      simp at this ⊢; omega

def dopsFrom (P : Program) (nt : Nat) (all : Array Oper) (bs H : List Nat) (j : Nat) : List Dop := mkDops bs H (all.toList.drop j) (mkCls P nt all (all.toList.drop j)) j

theorem planOf_spec {nt : Nat} {all : Array Oper} {pl : Plan} (h : planOf P nt all = some pl) :
    ∃ bs H, PF P nt all bs H ∧ pl = ⟨dopsFrom P nt all bs H 0, pick (mkCls P nt all all.toList) H⟩ := by
  simp only [planOf] at h
  cases hb : befs all.toList 0 [] with
  | none => simp [hb] at h
  | some bs =>
    simp only [hb] at h
    cases hk : chained bs (hardsOf (mkCls P nt all all.toList) 0) && distinctD all.toList [] && allReadsOk all all.toList bs all.toList 0 with
    | false => rw [hk] at h; cases h
    | true =>
      rw [hk] at h; simp only [cond_true, Option.some.injEq] at h
      simp only [Bool.and_eq_true] at hk
      obtain ⟨⟨hc, hd⟩, hr⟩ := hk
      refine ⟨bs, hardsOf (mkCls P nt all all.toList) 0, ?_, by rw [← h]; rfl⟩
      obtain ⟨_, b2⟩ := befs_spec hb rfl
      obtain ⟨_, d2⟩ := distinctD_spec hd
      obtain ⟨e1, e2⟩ := @hardsOf_spec (mkCls P nt all all.toList) 0
      have tl : ∀ i : Nat, all.toList[i]? = all[i]? := fun i => Array.getElem?_toList ..
      have hcl : ∀ (i : Nat) (o : Oper), all[i]? = some o → (mkCls P nt all all.toList)[i]? = some (mkCl P nt all o) := by
        intro i o ho
        rw [mkCls_drop, List.getElem?_map, tl, ho]; rfl
      refine ⟨?_, ?_, ?_, ?_, ?_, ?_, ?_, hc⟩
      · intro i o j ho
        have := (b2 i o (by rw [tl]; exact ho)).2 j
        simpa using this
      · intro i o e ho he hbd
        have := (b2 i o (by rw [tl]; exact ho)).1 e he hbd
        simpa using this
      · intro i j hi
        have hl := befs_length hb
        simp at hl
        have : bs.getD i 0 = 0 := by simp [List.getD, List.getElem?_eq_none (by omega : bs.length ≤ i)]
        simp only [Bf, this, Nat.zero_testBit]
      · intro i j o o' d h1 h2 h3 h4
        exact d2 i j o o' d (by rw [tl]; exact h1) (by rw [tl]; exact h2) h3 h4
      · intro i o t ho ht w o' hw hd'
        have h1 := allReadsOk_spec hr i o (by rw [tl]; exact ho)
        rw [Nat.zero_add] at h1
        exact readsOk_spec h1 t ht w (by
          have := writer_spec (i := 0) (fun a b o o' d => d2 a b o o' d) (by rw [tl]; exact hw) hd'
          simpa using this)
      · intro i o ho hh
        have := e1 i _ (hcl i o ho) hh
        simpa using this
      · intro i hi
        obtain ⟨_, c, h2, h3⟩ := e2 i hi
        simp only [Nat.sub_zero] at h2
        rw [mkCls_drop, List.getElem?_map, tl] at h2
        cases ho : all[i]? with
        | none => simp [ho] at h2
        | some o => simp [ho] at h2; subst h2; exact ⟨o, rfl, h3⟩

namespace PF
variable {nt : Nat} {all : Array Oper} {bs H : List Nat}

theorem lt (h : PF P nt all bs H) : ∀ {i j : Nat}, Bf bs i j = true → j < i := by
  intro i
  induction i using Nat.strongRecOn with
  | _ i ih =>
    intro j hj
    cases ho : all[i]? with
    | none => rw [h.out i j (by rcases Nat.lt_or_ge i all.size with x | x; · simp [Array.getElem?_eq_getElem x] at ho
                                · exact x)] at hj; cases hj
    | some o =>
      obtain ⟨e, a, b, c⟩ := (h.bef i o j ho).1 hj
      have he := h.edge i o e ho a b
      rcases c with rfl | c
      · exact he
      · have := ih e.on he c; omega

theorem tr (h : PF P nt all bs H) : ∀ {i j k : Nat}, Bf bs i j = true → Bf bs j k = true → Bf bs i k = true := by
  intro i
  induction i using Nat.strongRecOn with
  | _ i ih =>
    intro j k hj hk
    cases ho : all[i]? with
    | none => rw [h.out i j (by rcases Nat.lt_or_ge i all.size with x | x; · simp [Array.getElem?_eq_getElem x] at ho
                                · exact x)] at hj; cases hj
    | some o =>
      obtain ⟨e, a, b, c⟩ := (h.bef i o j ho).1 hj
      rw [h.bef i o k ho]
      refine ⟨e, a, b, .inr ?_⟩
      rcases c with rfl | c
      · exact hk
      · exact ih e.on (h.edge i o e ho a b) c hk

theorem chain_lt (h : PF P nt all bs H) : ∀ {k k' i i' : Nat}, k < k' → H[k]? = some i → H[k']? = some i' → Bf bs i' i = true := by
  have key : ∀ (l : List Nat), chained bs l = true → ∀ {k k' i i' : Nat}, k < k' → l[k]? = some i → l[k']? = some i' → Bf bs i' i = true := by
    intro l
    induction l with
    | nil => intro _ k k' i i' _ hi; simp at hi
    | cons a l ih =>
      intro hc k k' i i' hlt hi hi'
      cases l with
      | nil =>
        cases k' with
        | zero => omega
        | succ k' => simp at hi'
      | cons b l =>
        simp only [chained, Bool.and_eq_true] at hc
        cases k' with
        | zero => omega
        | succ k' =>
          simp only [List.getElem?_cons_succ] at hi'
          cases k with
          | zero =>
            simp only [List.getElem?_cons_zero, Option.some.injEq] at hi; subst hi
            cases k' with
            | zero => simp only [List.getElem?_cons_zero, Option.some.injEq] at hi'; subst hi'; exact hc.1
            | succ k' =>
              have := ih hc.2 (k := 0) (k' := k' + 1) (by omega) rfl hi'
              exact h.tr this hc.1
          | succ k =>
            exact ih hc.2 (k := k) (k' := k') (by omega) (by simpa using hi) hi'
  exact fun {k k' i i'} a b c => key H h.chain a b c

theorem loOf_spec (h : PF P nt all bs H) {i : Nat} : ∀ {k hh : Nat}, H[k]? = some hh → (k < loOf (bs.getD i 0) H ↔ Bf bs i hh = true) := by
  have key : ∀ (l : List Nat), (∀ (k k' a b : Nat), k < k' → l[k]? = some a → l[k']? = some b → Bf bs b a = true) → ∀ {k hh : Nat}, l[k]? = some hh → (k < loOf (bs.getD i 0) l ↔ Bf bs i hh = true) := by
    intro l
    induction l with
    | nil => intro _ k hh hk; simp at hk
    | cons a l ih =>
      intro hc k hh hk
      simp only [loOf]
      cases ha : Nat.testBit (bs.getD i 0) a with
      | false =>
        simp only [cond_false, Nat.not_lt_zero, false_iff]
        intro hb
        cases k with
        | zero => simp at hk; subst hk; rw [Bf, ha] at hb; cases hb
        | succ k =>
          have := h.tr hb (hc 0 (k + 1) a hh (by omega) rfl hk)
          rw [Bf, ha] at this; cases this
      | true =>
        simp only [cond_true]
        cases k with
        | zero => simp at hk; subst hk; simp [Bf]; exact ha
        | succ k =>
          have := ih (fun k k' x y hl hx hy => hc (k + 1) (k' + 1) x y (by omega) (by simpa using hx) (by simpa using hy)) (k := k) (hh := hh) (by simpa using hk)
          rw [← this]; omega
  exact fun {k hh} hk => key H (fun k k' a b => h.chain_lt) hk

theorem loOf_le (b : Nat) : ∀ l : List Nat, loOf b l ≤ l.length
  | [] => Nat.le_refl _
  | a :: l => by
    simp only [loOf]
    cases Nat.testBit b a with
    | false => simp
    | true => simp [loOf_le b l]

theorem hiOf_spec {i : Nat} : ∀ {l : List Nat}, ∀ hh, l[hiOf bs i l]? = some hh → Bf bs hh i = true
  | [], hh, h => by simp at h
  | a :: l, hh, h => by
    simp only [hiOf] at h
    cases ha : Nat.testBit (bs.getD a 0) i with
    | true =>
      rw [ha] at h
      simp only [cond_true, List.getElem?_cons_zero, Option.some.injEq] at h; subst h
      exact ha
    | false =>
      rw [ha] at h
      simp only [cond_false, Nat.succ_eq_add_one, List.getElem?_cons_succ] at h
      exact hiOf_spec hh h
end PF

theorem dopsFrom_cons {nt : Nat} {all : Array Oper} {bs H : List Nat} {j : Nat} {o : Oper} (h : all[j]? = some o) :
    dopsFrom P nt all bs H j = ⟨mkCl P nt all o, isHd (mkCl P nt all o).r, loOf (bs.getD j 0) H, hiOf bs j H⟩ :: dopsFrom P nt all bs H (j + 1) := by
  unfold dopsFrom
  rw [drop_cons h]
  simp only [mkCls, mkDops]
theorem dopsFrom_nil {nt : Nat} {all : Array Oper} {bs H : List Nat} {j : Nat} (h : all.size ≤ j) : dopsFrom P nt all bs H j = [] := by
  unfold dopsFrom
  rw [List.drop_eq_nil_of_le (by simpa using h)]; rfl

theorem pick_spec {cs : List Cl} : ∀ {H : List Nat}, (∀ h ∈ H, ∃ c, cs[h]? = some c) → pick cs H = H.filterMap (cs[·]?)
  | [], _ => rfl
  | h :: H, hc => by
    obtain ⟨c, e⟩ := hc h (List.mem_cons_self)
    simp [pick, e, pick_spec (fun x hx => hc x (List.mem_cons_of_mem _ hx))]

/-! ### the model's order -/

/-- the rest of an order of a region, where E is done -/
inductive Lin (all : Array Oper) : List Nat → (Nat → Bool) → Prop
  | nil {E : Nat → Bool} : (∀ i, i < all.size → E i = true) → Lin all [] E
  | cons {E : Nat → Bool} {i : Nat} {L : List Nat} {o : Oper} : all[i]? = some o → E i = false → (∀ e ∈ o.after.toList, Region.binds .any e = true → E e.on = true) →
      Lin all L (fun j => decide (j = i) || E j) → Lin all (i :: L) E

theorem Lin.congr {all : Array Oper} {L : List Nat} {E E' : Nat → Bool} (h : Lin all L E) (he : ∀ i, E i = E' i) : Lin all L E' := by
  have : E = E' := funext he
  rw [← this]; exact h

theorem lin_go {all : Array Oper} (hedge : ∀ i o e, all[i]? = some o → e ∈ o.after.toList → Region.binds .any e = true → e.on < i) :
    ∀ (fuel t : Nat) (listed : Array Bool), listed.size = all.size → ((List.range all.size).filter (fun i => !listed.getD i true)).length = fuel →
      Lin all (Region.linearise.go .any all fuel t listed []) (fun i => listed.getD i false)
  | 0, t, listed, hs, hf => by
    refine .nil fun i hi => ?_
    have hnil := List.eq_nil_of_length_eq_zero hf
    have : i ∉ (List.range all.size).filter (fun i => !listed.getD i true) := by rw [hnil]; simp
    rw [List.mem_filter] at this
    have hb : (!listed.getD i true) = false := by
      cases hx : !listed.getD i true with
      | false => rfl
      | true => exact absurd ⟨List.mem_range.2 hi, hx⟩ this
    have hil : i < listed.size := by omega
    simp only [Array.getD, hil, dite_true] at hb ⊢
    simpa using hb
  | fuel + 1, t, listed, hs, hf => by
    rw [Region.linearise.go]
    generalize hrs : (List.range all.size).filter (fun i => !listed.getD i true && ((all[i]?).map (·.after.all fun e => !Region.binds .any e || listed.getD e.on false)).getD false) = rs
    -- the least one that is not listed is ready
    have hne : rs ≠ [] := by
      intro hnil
      have hall : ∀ i, i < all.size → listed.getD i true = true := by
        intro i
        induction i using Nat.strongRecOn with
        | _ i ih =>
          intro hi
          cases hx : listed.getD i true with
          | true => rfl
          | false =>
            exfalso
            have : i ∈ rs := by
              rw [← hrs, List.mem_filter]
              refine ⟨List.mem_range.2 hi, ?_⟩
              have ho : all[i]? = some all[i] := Array.getElem?_eq_getElem hi
              simp only [hx, ho, Option.map_some, Option.getD_some, Bool.not_false, Bool.true_and]
              rw [Array.all_eq_true']
              intro e he
              cases hb : Region.binds .any e with
              | false => rfl
              | true =>
                have hlt := hedge i _ e ho (by simpa using he) hb
                have := ih e.on hlt (by omega)
                have hel : e.on < listed.size := by omega
                simp only [Array.getD, hel, dite_true] at this ⊢
                simpa using this
            rw [hnil] at this; simp at this
      have : ((List.range all.size).filter (fun i => !listed.getD i true)) = [] := by
        rw [List.filter_eq_nil_iff]
        intro i hi
        simp [hall i (List.mem_range.1 hi)]
      rw [this] at hf; simp at hf
    have hlen : 0 < rs.length := List.length_pos_iff.2 hne
    have hget : rs[t % rs.length]? = some (rs[t % rs.length]'(Nat.mod_lt _ hlen)) := List.getElem?_eq_getElem (Nat.mod_lt _ hlen)
    rw [hget]
    simp only []
    rw [linearise_go_acc]
    generalize hi0 : rs[t % rs.length]'(Nat.mod_lt _ hlen) = i
    have him : i ∈ rs := by rw [← hi0]; exact List.getElem_mem _
    rw [← hrs, List.mem_filter] at him
    obtain ⟨hir, hcond⟩ := him
    have hil : i < all.size := List.mem_range.1 hir
    have hils : i < listed.size := by omega
    simp only [Bool.and_eq_true, Bool.not_eq_true'] at hcond
    obtain ⟨hl, hr⟩ := hcond
    have ho : all[i]? = some all[i] := Array.getElem?_eq_getElem hil
    simp only [ho, Option.map_some, Option.getD_some] at hr
    rw [Array.all_eq_true'] at hr
    simp only [List.reverse_cons, List.reverse_nil, List.nil_append, List.singleton_append]
    refine .cons ho ?_ ?_ ?_
    · simp only [Array.getD, hils, dite_true] at hl ⊢; exact hl
    · intro e he hb
      have := hr e (by simpa using he)
      simpa [hb] using this
    · refine (lin_go hedge fuel (t / rs.length) (listed.setIfInBounds i true) (by simpa using hs) ?_).congr ?_
      · -- one less
        have h1 : ((List.range all.size).filter (fun j => !listed.getD j true)).length = fuel + 1 := hf
        have hset : ∀ j, j < all.size → (listed.setIfInBounds i true).getD j true = (decide (j = i) || listed.getD j true) := by
          intro j hj
          have hjs : j < listed.size := by omega
          by_cases e : j = i
          · subst e; simp [Array.getD, hjs]
          · simp [Array.getD, hjs, Array.getElem_setIfInBounds, Ne.symm e, e]
        have h2 : ((List.range all.size).filter (fun j => !(listed.setIfInBounds i true).getD j true)) = ((List.range all.size).filter (fun j => !listed.getD j true)).filter (fun j => !decide (j = i)) := by
          rw [List.filter_filter]
          refine List.filter_congr fun j hj => ?_
          rw [hset j (List.mem_range.1 hj)]
          simp
        rw [h2]
        have hnd : ((List.range all.size).filter (fun j => !listed.getD j true)).Nodup := List.Nodup.sublist List.filter_sublist List.nodup_range
        have him2 : i ∈ (List.range all.size).filter (fun j => !listed.getD j true) := List.mem_filter.2 ⟨hir, by rw [hl]; rfl⟩
        have h3 : ((List.range all.size).filter (fun j => !listed.getD j true)).filter (fun j => !decide (j = i)) = ((List.range all.size).filter (fun j => !listed.getD j true)).erase i := by
          rw [List.Nodup.erase_eq_filter hnd]
          refine List.filter_congr fun j _ => ?_
          simp only [bne]
          congr 1
        rw [h3, List.length_erase_of_mem him2, h1]; rfl
      · intro j
        by_cases e : j = i
        · subst e; simp [Array.getD, hils]
        · by_cases hjs : j < listed.size
          · simp [Array.getD, hjs, Array.getElem_setIfInBounds, Ne.symm e, e]
          · simp [Array.getD, hjs, e]

theorem lin_schedule {all : Array Oper} (hedge : ∀ i o e, all[i]? = some o → e ∈ o.after.toList → Region.binds .any e = true → e.on < i) (t : Nat) :
    Lin all (Region.schedule true all t) (fun _ => false) := by
  simp only [Region.schedule, Bool.true_or, if_true, Region.linearise]
  refine (lin_go hedge all.size t (Array.replicate all.size false) (by simp) ?_).congr ?_
  · have : ((List.range all.size).filter (fun i => !(Array.replicate all.size false).getD i true)) = List.range all.size := by
      rw [List.filter_eq_self]
      intro i hi
      simp [Array.getD, List.mem_range.1 hi]
    rw [this]; simp
  · intro i
    simp [Array.getD]

end Go.AM
