/- Stores into maps; iterators. -/
import Derived.Test.YteoodndfkdfnaaaGreatDoorAmStore
namespace Go.AM
variable {P : Program} {o : Oper} {ι : Inj} {s : S} {w w' : World}

theorem SRel.putO (h : SRel P ι s w) {id : Nat} {l : Loc} {ob o₀ : AObj} {o' : Obj} (hi : ι id = some l) (h₀ : s.h.get id = some o₀) (hnb : ∀ b, o₀ ≠ .blk b)
    (hp : ∀ p, ¬ Par ob p) (hw : WPut w w' l.blk o') (hr : ORel P ι l ob o') : SRel P ι (s.put id ob) w' := by
  have hnd : ¬ Dead o₀ := by cases o₀ <;> first | exact absurd rfl (hnb _) | simp [Dead]
  have hnp : ∀ p, ¬ Par o₀ p := by intro p; cases o₀ <;> first | exact absurd rfl (hnb _) | simp [Par]
  have hc : ∀ id2 o2, s.h.get id2 = some o2 → ι id2 ≠ none → ¬ Dead o2 → ¬ Par o2 id := by
    intro id2 o2 a b c d
    obtain ⟨_, y⟩ := h.par id2 o2 id a b c d
    obtain ⟨b', e, _⟩ := y _ h₀
    exact hnb b' e
  refine h.put hi h₀ hp ?_ hc hw hr
  intro id2 l2 o2 hne hl2 hbl hg2
  rcases h.alias id id2 l l2 _ o2 (Ne.symm hne) hi hl2 hbl.symm h₀ hg2 with a | a | a | a
  · exact absurd a hnd
  · exact a
  · exact absurd a (hnp _)
  · by_cases hd : Dead o2
    · exact hd
    · exact absurd a (hc id2 o2 hg2 (by rw [hl2]; simp) hd)

theorem setObj_run {w : World} {r : Nat} {o₀ o1 : Obj} (h : w.heap[r]? = some o₀) (hn : ∀ c e f, o₀ ≠ .cells c e f) :
    (setObj r o1).run P w = .ok () { w with heap := w.heap.setIfInBounds r o1 } ∧ WPut w { w with heap := w.heap.setIfInBounds r o1 } r o1 := by
  have hlt : r < w.heap.size := by
    rcases Nat.lt_or_ge r w.heap.size with x | x
    · exact x
    · rw [Array.getElem?_eq_none x] at h; cases h
  refine ⟨?_, ?_, fun c hc => ?_, by simp, rfl, rfl, rfl⟩
  · simp only [setObj, Sem.run, h]
  · simp [hlt]
  · simp [Array.getElem?_setIfInBounds_ne (Ne.symm hc)]

theorem KeyNe.symm {x y : Value} (h : KeyNe x y) : KeyNe y x := by
  unfold KeyNe at h
  split at h
  · exact ⟨h.1.symm, fun e => h.2 e.symm⟩
  · exact fun e => h e.symm
  · exact h.elim

theorem putK_spec {kk : KeyKind} {k v : Value} (h0 : keyOk kk k = true) : ∀ {es es2 : List (Value × Value)} {nw : Bool}, putK kk k v es = some (nw, es2) → (∀ p ∈ es, keyOk kk p.1 = true) →
    (nw = true ∧ es2 = es ++ [(k, v)] ∧ ∀ p ∈ es, KeyNe k p.1) ∨ (nw = false ∧ ∃ a u b, es = a ++ (k, u) :: b ∧ es2 = a ++ (k, v) :: b)
  | [], es2, nw, h, _ => by simp only [putK, Option.some.injEq, Prod.mk.injEq] at h; obtain ⟨rfl, rfl⟩ := h; exact .inl ⟨rfl, rfl, by simp⟩
  | (k', v') :: es, es2, nw, h, hk => by
    obtain ⟨b, _, e2, e3, e4⟩ := key_spec h0 (hk (k', v') (by simp))
    simp only [putK, e2] at h
    cases b with
    | true =>
      simp only [Option.some.injEq, Prod.mk.injEq] at h; obtain ⟨rfl, rfl⟩ := h
      have := e3.1 rfl
      subst this
      exact .inr ⟨rfl, [], v', es, rfl, rfl⟩
    | false =>
      simp only [] at h
      cases hp : putK kk k v es with
      | none => simp [hp] at h
      | some q =>
        obtain ⟨nb, l⟩ := q
        simp only [hp, Option.some.injEq, Prod.mk.injEq] at h; obtain ⟨rfl, rfl⟩ := h
        rcases putK_spec h0 hp (fun p hp => hk p (by simp [hp])) with ⟨a, b, c⟩ | ⟨a, x, u, y, b, c⟩
        · refine .inl ⟨a, by rw [b]; rfl, fun p hp => ?_⟩
          rcases List.mem_cons.1 hp with rfl | hm
          · exact e4 rfl
          · exact c p hm
        · exact .inr ⟨a, (k', v') :: x, u, y, by rw [b]; rfl, by rw [c]; rfl⟩
theorem putK_first {kk : KeyKind} {k v : Value} {es es2 : List (Value × Value)} {nw : Bool} (h : putK kk k v es = some (nw, es2)) : ∀ p l, es = p :: l → keyOk kk p.1 = true := by
  intro p l e
  subst e
  obtain ⟨k', v'⟩ := p
  simp only [putK] at h
  cases he : keyEq kk k k' with
  | none => simp [he] at h
  | some b => exact (keyEq_ok he).2

theorem EsRel.append {ι : Inj} : ∀ {a b : List (Value × Value)} {a' b' : List MapEntry}, EsRel ι a a' → EsRel ι b b' → EsRel ι (a ++ b) (a' ++ b')
  | _, _, _, _, .nil, h => h
  | _, _, _, _, .cons x y z, h => .cons x y (z.append h)
theorem EsRel.split {ι : Inj} : ∀ {a : List (Value × Value)} {k u : Value} {b : List (Value × Value)} {l : List MapEntry}, EsRel ι (a ++ (k, u) :: b) l →
    ∃ la e lb, l = la ++ e :: lb ∧ EsRel ι a la ∧ VRel ι k e.key ∧ VRel ι u e.val ∧ EsRel ι b lb
  | [], k, u, b, _, .cons x y z => ⟨[], _, _, rfl, .nil, x, y, z⟩
  | p :: a, k, u, b, _, .cons x y z => by
    obtain ⟨la, e, lb, h1, h2, h3, h4, h5⟩ := z.split
    exact ⟨_ :: la, e, lb, by rw [h1]; rfl, .cons x y h2, h3, h4, h5⟩

theorem sameBits_self {kk : KeyKind} {k : Value} (h : keyOk kk k = true) (n : Nat) : Instr.sameBits n k k = true := by
  cases kk with
  | int _ => cases k <;> simp only [keyOk] at h <;> first | (cases h; done) | simp [Instr.sameBits]
  | str => cases k <;> simp only [keyOk] at h <;> first | (cases h; done) | simp [Instr.sameBits, bytes_beq]

def putObj (res : Option (Nat × Value)) (es' : Array MapEntry) (clk : Nat) (k x : Value) : Obj :=
  match res with
  | some (i, _) => .map (es'.modify i fun e => { e with key := k, val := x }) clk
  | none => .map (es'.push { key := k, val := x, born := clk }) (clk + 1)

/-- the model's store into a map: where the key is new, where it is not -/
theorem run_mapUpdate {t kt et : TypeId} (hu : P.underlying t = some (.map kt et)) {kk : KeyKind} (hk : keyKind P kt = some kk) {k x : Value} (hkk : keyOk kk k = true) {r : Nat} {es' : Array MapEntry} {clk : Nat}
    (hg : w.heap[r]? = some (.map es' clk)) {res : Option (Nat × Value)} (hf : (Instr.findKey kt k es'.toList).run P w = .ok res w) (hkey : ∀ i v, res = some (i, v) → ∃ e, es'[i]? = some e ∧ e.key = k) :
    ∃ w', (Instr.mapUpdate t (.map (some r)) k x).run P w = .ok () w' ∧
      WPut w w' r (putObj res es' clk k x) := by
  have hn : ∀ c e f, Obj.map es' clk ≠ .cells c e f := by intro c e f h; cases h
  cases res with
  | none =>
    obtain ⟨h1, h2⟩ := setObj_run (P := P) (o1 := .map (es'.push { key := k, val := x, born := clk }) (clk + 1)) hg hn
    refine ⟨_, ?_, h2⟩
    simp only [Instr.mapUpdate, Sem.run_bind, run_underlying hu, Result.andThen_ok, run_getObj_map hg, run_checkKey hk _ _ _ hkk, hf]
    exact h1
  | some q =>
    obtain ⟨i, v⟩ := q
    obtain ⟨e, he, hke⟩ := hkey i v rfl
    obtain ⟨h1, h2⟩ := setObj_run (P := P) (o1 := .map (es'.modify i fun e => { e with key := k, val := x }) clk) hg hn
    refine ⟨_, ?_, h2⟩
    simp only [Instr.mapUpdate, Sem.run_bind, run_underlying hu, Result.andThen_ok, run_getObj_map hg, run_checkKey hk _ _ _ hkk, hf, he, Option.map_some, Option.getD_some, Instr.keyThatStays, hke,
      sameBits_self hkk, if_true, Sem.run_pure]
    exact h1

theorem pairwise_key_eq {es : List (Value × Value)} (hpw : es.Pairwise (fun a b => KeyNe a.1 b.1)) {lst : List MapEntry} (hr : EsRel ι es lst) {kk : KeyKind} (hks : ∀ p ∈ es, keyOk kk p.1 = true) {k : Value}
    {e e' : MapEntry} (h : e ∈ lst) (h' : e' ∈ lst) (hk : e.key = k) (hk' : e'.key = k) : e = e' := by
  induction hr with
  | nil => simp at h
  | cons a b c ih =>
    rename_i q u f l l'
    rw [List.pairwise_cons] at hpw
    have hq := keyOk_vrel (hks (q, u) (by simp)) a
    rcases List.mem_cons.1 h with h1 | h1
    · rcases List.mem_cons.1 h' with h2 | h2
      · rw [h1, h2]
      · obtain ⟨p, m1, m2, _⟩ := c.mem' e' h2
        have := keyOk_vrel (hks p (by simp [m1])) m2
        exact absurd (show q = p.1 by rw [← this, hk', ← hk, h1, hq]) (hpw.1 p m1).ne
    · rcases List.mem_cons.1 h' with h2 | h2
      · obtain ⟨p, m1, m2, _⟩ := c.mem' e h1
        have := keyOk_vrel (hks p (by simp [m1])) m2
        exact absurd (show q = p.1 by rw [← this, hk, ← hk', h2, hq]) (hpw.1 p m1).ne
      · exact ih hpw.2 (fun p hp => hks p (by simp [hp])) h1 h2

theorem map_put_rel {kk : KeyKind} {k v v' : Value} (h0 : keyOk kk k = true) {es es2 : List (Value × Value)} {nw : Bool} (hp : putK kk k v es = some (nw, es2)) {es' : Array MapEntry} {lst : List MapEntry} {clk : Nat}
    (hperm : lst.Perm es'.toList) (hr : EsRel ι es lst) (hpw : es.Pairwise (fun a b => KeyNe a.1 b.1)) (hb : ∀ e ∈ es'.toList, e.born < clk) (hnd : (es'.toList.map (·.born)).Nodup) (hv : VRel ι v v')
    {kt : TypeId} (hkk : keyKind P kt = some kk) (w : World) (l : Loc) :
    ∃ res, (Instr.findKey kt k es'.toList).run P w = .ok res w ∧ (∀ i u, res = some (i, u) → ∃ e, es'[i]? = some e ∧ e.key = k) ∧
      ORel P ι l (.map es2 (bif nw then Nat.succ clk else clk))
        (putObj res es' clk k v') := by
  have hks := keys_ok (kk := kk) hpw (putK_first hp)
  rcases run_findKey hkk h0 hperm hr hpw hks w with ⟨u, j, e, hm, hj, hke, hue, hrun⟩ | ⟨hno, hno', hrun⟩
  · refine ⟨some (j, e.val), hrun, fun i u' h => ?_, ?_⟩
    · cases h; exact ⟨e, by simpa using hj, hke⟩
    · rcases putK_spec h0 hp hks with ⟨_, _, hne⟩ | ⟨rfl, a, u2, b, e1, e2⟩
      · exact absurd rfl (hne _ hm).ne
      · subst e1; subst e2
        obtain ⟨la, e0, lb, q1, q2, q3, q4, q5⟩ := hr.split
        have hk0 : e0.key = k := keyOk_vrel h0 q3
        have hmem : e ∈ lst := hperm.mem_iff.2 (List.mem_of_getElem? hj)
        have hee : e = e0 := pairwise_key_eq hpw hr hks hmem (by rw [q1]; simp) hke hk0
        subst hee
        simp only [cond_false, putObj]
        have hjlt : j < es'.toList.length := by
          rcases Nat.lt_or_ge j es'.toList.length with x | x
          · exact x
          · rw [List.getElem?_eq_none x] at hj; cases hj
        have hsplit : es'.toList = es'.toList.take j ++ e :: es'.toList.drop (j + 1) := by
          rw [List.getElem?_eq_getElem hjlt] at hj
          have : es'.toList[j] = e := by simpa using hj
          rw [← this, ← List.drop_eq_getElem_cons hjlt, List.take_append_drop]
        have hmod : (es'.modify j fun e => { e with key := k, val := v' }).toList = es'.toList.take j ++ { e with key := k, val := v' } :: es'.toList.drop (j + 1) := by
          rw [Array.toList_modify, List.modify_eq_take_cons_drop hjlt]
          rw [List.getElem?_eq_getElem hjlt] at hj
          have : es'.toList[j] = e := by simpa using hj
          rw [this]
        refine .map (lst := la ++ { e with key := k, val := v' } :: lb) ?_ (q2.append (.cons ?_ hv q5)) ?_ ?_ ?_
        · rw [hmod]
          have hp2 : (la ++ e :: lb).Perm (es'.toList.take j ++ e :: es'.toList.drop (j + 1)) := by rw [← hsplit, ← q1]; exact hperm
          have hp3 : (e :: (la ++ lb)).Perm (e :: (es'.toList.take j ++ es'.toList.drop (j + 1))) := (List.perm_middle.symm.trans hp2).trans List.perm_middle
          exact List.perm_middle.trans ((List.Perm.cons _ (List.Perm.cons_inv hp3)).trans List.perm_middle.symm)
        · show VRel ι k k
          exact hk0 ▸ q3
        · have hkeys : ∀ x y : Value, ((a ++ (k, x) :: b).map (·.1)) = ((a ++ (k, y) :: b).map (·.1)) := by intro x y; simp
          have := (List.pairwise_map (f := fun p : Value × Value => p.1) (R := KeyNe)).2 hpw
          rw [hkeys u2 v] at this
          exact (List.pairwise_map (f := fun p : Value × Value => p.1) (R := KeyNe)).1 this
        · intro e2 he2
          rw [hmod] at he2
          rcases List.mem_append.1 he2 with x | x
          · exact hb e2 (List.mem_of_mem_take x)
          · rcases List.mem_cons.1 x with rfl | x
            · exact hb e (List.mem_of_getElem? hj)
            · exact hb e2 (List.mem_of_mem_drop x)
        · rw [hmod]
          rw [hsplit] at hnd
          simpa using hnd
  · refine ⟨none, hrun, fun i u h => (by cases h), ?_⟩
    rcases putK_spec h0 hp hks with ⟨rfl, e1, hne⟩ | ⟨_, a, u2, b, e1, _⟩
    · subst e1
      simp only [cond_true, putObj]
      refine .map (lst := lst ++ [{ key := k, val := v', born := clk }]) ?_ (hr.append (.cons ?_ hv .nil)) ?_ ?_ ?_
      · rw [Array.toList_push]; exact hperm.append_right _
      · show VRel ι k k
        cases kk with
        | int _ => cases k <;> simp only [keyOk] at h0 <;> first | (cases h0; done) | exact .int _ _
        | str => cases k <;> simp only [keyOk] at h0 <;> first | (cases h0; done) | exact .string _
      · rw [List.pairwise_append]
        exact ⟨hpw, by simp, fun a ha b hb => by simp at hb; subst hb; exact (hne a ha).symm⟩
      · intro e he
        rw [Array.toList_push] at he
        rcases List.mem_append.1 he with x | x
        · have := hb e x; omega
        · simp at x; subst x; simp
      · rw [Array.toList_push, List.map_append, List.nodup_append]
        refine ⟨hnd, by simp, ?_⟩
        intro a ha b hb'
        simp at hb'; subst hb'
        obtain ⟨e, he, rfl⟩ := List.mem_map.1 ha
        have := hb e he; omega
    · exact absurd rfl (hno (k, u2) (by rw [e1]; simp))

end Go.AM
