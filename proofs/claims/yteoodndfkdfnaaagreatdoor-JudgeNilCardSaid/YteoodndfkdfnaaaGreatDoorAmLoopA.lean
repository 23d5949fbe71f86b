/- Loops over maps: what the rounds are. -/
import Derived.Test.YteoodndfkdfnaaaGreatDoorAmBack
namespace Go.AM
variable {P : Program} {K : Known}

/-- a round -/
structure RD where
  nx : Nat
  nx' : Nat
  h1 : T AObj
  k : Value
  v : Value
  kx : Value
  x : Value

def Chn : Nat → List RD → Nat → Prop
  | a, [], b => a = b
  | a, r :: R, b => r.nx = a ∧ a ≤ r.nx' ∧ Chn r.nx' R b
theorem Chn.le : ∀ {R : List RD} {a b : Nat}, Chn a R b → a ≤ b ∧ ∀ r ∈ R, a ≤ r.nx ∧ r.nx ≤ r.nx' ∧ r.nx' ≤ b
  | [], a, b, h => ⟨Nat.le_of_eq h, fun r hr => by simp at hr⟩
  | r :: R, a, b, ⟨h1, h2, h3⟩ => by
    obtain ⟨q1, q2⟩ := Chn.le h3
    refine ⟨by omega, fun r' hr => ?_⟩
    rcases List.mem_cons.1 hr with rfl | hr
    · exact ⟨by omega, by omega, q1⟩
    · have := q2 r' hr; omega
theorem Chn.apart : ∀ {R : List RD} {a b : Nat}, Chn a R b → R.Pairwise fun r r' => r.nx' ≤ r'.nx
  | [], _, _, _ => .nil
  | r :: R, a, b, ⟨h1, h2, h3⟩ => .cons (fun r' hr => ((h3.le).2 r' hr).1) h3.apart

theorem copyR_get {src : T AObj} : ∀ (n i : Nat) (h : T AObj) (id : Nat), (copyR src n i h).get id = if i ≤ id ∧ id < i + n then src.get id else h.get id
  | 0, i, h, id => by simp only [copyR]; rw [if_neg (by omega)]
  | n + 1, i, h, id => by
    simp only [copyR]
    rw [copyR_get n (Nat.succ i)]
    by_cases h1 : Nat.succ i ≤ id ∧ id < Nat.succ i + n
    · rw [if_pos h1, if_pos (by omega)]
    · rw [if_neg h1, T.get_setF _ _ _ _ _ (Nat.lt_succ_self i)]
      by_cases h2 : id = i
      · subst h2; rw [if_pos rfl, if_pos (by omega)]
      · rw [if_neg h2, if_neg (by omega)]

def RdOk2 (P : Program) (K : Known) (fn nt : Nat) (g0 : T Value) (p : Pat) (h0 : T AObj) (m0 : Nat) (kk : KeyKind) (r : RD) : Prop :=
  round1 P K fn nt g0 p h0 r.nx m0 r.k r.v = some (r.h1, r.nx', r.kx, r.x) ∧ keyOk kk r.kx = true

def newEs (R : List RD) : List (Value × Value) := R.map fun r => (r.kx, r.x)

theorem rounds_spec {fn nt : Nat} {g0 : T Value} {p : Pat} {h0 : T AObj} {m0 : Nat} {kk : KeyKind} : ∀ {l : List (Value × Value)} {nx : Nat} {es : List (Value × Value)} {h : T AObj} {nx' : Nat} {es' : List (Value × Value)} {h' : T AObj},
    rounds P K fn nt g0 p h0 m0 kk l nx es h = some (nx', es', h') → es.Pairwise (fun a b => KeyNe a.1 b.1) →
    ∃ R : List RD, (R ≠ [] → ∀ q ∈ es, keyOk kk q.1 = true) ∧ R.map (fun r => (r.k, r.v)) = l ∧ (∀ r ∈ R, RdOk2 P K fn nt g0 p h0 m0 kk r) ∧ Chn nx R nx' ∧ es' = es ++ newEs R ∧ es'.Pairwise (fun a b => KeyNe a.1 b.1) ∧
      (∀ r ∈ R, ∀ id, r.nx ≤ id → id < r.nx' → h'.get id = r.h1.get id) ∧ (∀ id, (id < nx ∨ nx' ≤ id) → h'.get id = h.get id)
  | [], nx, es, h, nx', es', h', hr, hp => by
    simp only [rounds, Option.some.injEq, Prod.mk.injEq] at hr
    obtain ⟨rfl, rfl, rfl⟩ := hr
    exact ⟨[], fun x => absurd rfl x, rfl, fun r hr => by simp at hr, rfl, by simp [newEs], hp, fun r hr => by simp at hr, fun _ _ => rfl⟩
  | (k, v) :: l, nx, es, h, nx', es', h', hr, hp => by
    simp only [rounds] at hr
    cases h1 : round1 P K fn nt g0 p h0 nx m0 k v with
    | none => simp [h1] at hr
    | some q =>
      obtain ⟨hh, n1, kx, x⟩ := q
      simp only [h1] at hr
      cases hc : Nat.ble nx n1 && keyOk kk kx with
      | false => rw [hc] at hr; cases hr
      | true =>
        rw [hc] at hr; simp only [cond_true] at hr
        simp only [Bool.and_eq_true, Nat.ble_eq] at hc
        cases hpk : putK kk kx x es with
        | none => simp [hpk] at hr
        | some q =>
          obtain ⟨nw, es1⟩ := q
          cases nw with
          | false => simp [hpk] at hr
          | true =>
            simp only [hpk] at hr
            have hk : ∀ q ∈ es, keyOk kk q.1 = true := keys_ok hp (putK_first hpk)
            rcases putK_spec hc.2 hpk hk with ⟨_, e1, e2⟩ | ⟨e, _⟩
            · subst e1
              have hp1 : (es ++ [(kx, x)]).Pairwise (fun a b => KeyNe a.1 b.1) := by
                rw [List.pairwise_append]
                refine ⟨hp, List.pairwise_singleton _ _, fun a ha b hb => ?_⟩
                simp at hb; subst hb
                exact (e2 a ha).symm
              obtain ⟨R, _, q1, q2, q3, q4, q5, q6, q7⟩ := rounds_spec hr hp1
              refine ⟨⟨nx, n1, hh, k, v, kx, x⟩ :: R, fun _ => hk, by simp [q1], ?_, ⟨rfl, hc.1, q3⟩, ?_, q5, ?_, ?_⟩
              · intro r hr
                rcases List.mem_cons.1 hr with rfl | hr
                · exact ⟨h1, hc.2⟩
                · exact q2 r hr
              · rw [q4]; simp [newEs]
              · intro r hr id ha hb
                rcases List.mem_cons.1 hr with rfl | hr
                · have hb' : id < n1 := hb
                  have ha' : nx ≤ id := ha
                  rw [q7 id (.inl hb'), copyR_get, if_pos (by simp only [Nat.sub_eq]; omega)]
                · exact q6 r hr id ha hb
              · intro id hid
                have := q3.le.1
                rw [q7 id (by omega), copyR_get, if_neg (by simp only [Nat.sub_eq]; omega)]
            · cases e

/-! ### the iterator -/

theorem next_run {w : World} {rb mb c : Nat} {seen : Array Nat} {es : Array MapEntry} (hr : w.heap[rb]? = some (.mapIter (some mb) c seen c)) (hm : w.heap[mb]? = some (.map es c)) (hb : ∀ e ∈ es.toList, e.born < c) (t : TypeId) :
    ((∀ e ∈ es.toList, seen.contains e.born = true) ∧ ∃ w', (Instr.next (.pointer (some ⟨rb, 0, none⟩)) false t).run P w = .ok (.tuple #[.bool false]) w' ∧ WSame w w') ∨
    (∃ e ∈ es.toList, seen.contains e.born = false ∧ ∃ w', (Instr.next (.pointer (some ⟨rb, 0, none⟩)) false t).run P w = .ok (.tuple #[.bool true, e.key, e.val]) w' ∧ WPut w w' rb (.mapIter (some mb) c (seen.push e.born) c)) := by
  have hnoneed : (!seen.isEmpty && !es.isEmpty && es.all (·.born ≥ c)) = false := by
    cases he : es.isEmpty with
    | true => simp
    | false =>
      have hne : es.toList ≠ [] := by
        intro h
        rw [Array.isEmpty_eq_false_iff] at he
        exact he (Array.toList_eq_nil_iff.1 h)
      obtain ⟨e, l, hl⟩ := List.exists_cons_of_ne_nil hne
      have : es.all (·.born ≥ c) = false := by
        rw [← Array.all_toList, hl]
        have := hb e (by rw [hl]; simp)
        simp only [List.all_cons, Bool.and_eq_false_iff, decide_eq_false_iff_not]
        exact .inl (by omega)
      simp [this]
  have hold : (es.filter fun e => !seen.contains e.born).filter (fun e => decide (e.born < c)) = es.filter fun e => !seen.contains e.born := by
    rw [Array.filter_eq_self]
    intro e he
    rw [Array.mem_filter] at he
    simpa using hb e (by simpa using he.1)
  have hnew : (es.filter fun e => !seen.contains e.born).filter (fun e => decide (e.born ≥ c)) = #[] := by
    rw [Array.filter_eq_empty_iff]
    intro e he
    rw [Array.mem_filter] at he
    have := hb e (by simpa using he.1)
    simp; omega
  generalize hleft : (es.filter fun e => !seen.contains e.born) = left at hold hnew
  have hgr := run_getObj_iter (P := P) hr
  have hgm := run_getObj_map (P := P) hm
  by_cases hem : left.isEmpty = true
  · left
    have hl0 : left = #[] := Array.isEmpty_iff.1 hem
    refine ⟨?_, w, ?_, WSame.refl w⟩
    · intro e he
      cases hs : seen.contains e.born with
      | true => rfl
      | false =>
        have : e ∈ left := by rw [← hleft, Array.mem_filter]; exact ⟨by simpa using he, by simp only [hs]; rfl⟩
        rw [hl0] at this; simp at this
    · simp only [Instr.next, Sem.run_bind, hgr, Result.andThen_ok, hgm, hnoneed, Bool.false_eq_true, if_false, hleft, hold, hnew, hl0]
      simp [Question.forced]
  · right
    have hem' : left.isEmpty = false := by simpa using hem
    have hcand : ∀ w1 : World, ∃ e ∈ left.toList, ∃ n w2, (choose (.mapNext (left.map some).size)).run P w1 = .ok n w2 ∧ WSame w1 w2 ∧ (left.map some)[n]? = some (some e) := by
      intro w1
      have hpos : 0 < left.size := by
        rcases Nat.eq_zero_or_pos left.size with h0 | h0
        · exact absurd (by simp [Array.size_eq_zero_iff.1 h0]) hem
        · exact h0
      by_cases hf : left.size ≤ 1
      · have h1 : left.size = 1 := by omega
        refine ⟨left[0], by simp, 0, w1, ?_, WSame.refl _, by simp [hpos]⟩
        simp [choose, Question.forced, Sem.run, h1]
      · have hlt : (w1.tape w1.drawn (.mapNext left.size)) % left.size < left.size := Nat.mod_lt _ hpos
        refine ⟨left[(w1.tape w1.drawn (.mapNext left.size)) % left.size], by simp, (w1.tape w1.drawn (.mapNext left.size)) % left.size, { w1 with drawn := w1.drawn + 1 }, ?_, ⟨rfl, rfl, rfl, rfl⟩, by simp [hlt]⟩
        simp [choose, Question.forced, Sem.run, Question.cut, hf]
    obtain ⟨e, he, n, w2, h1, h2, h3⟩ := hcand w
    have heL : e ∈ es.toList ∧ seen.contains e.born = false := by
      have : e ∈ left := by simpa using he
      rw [← hleft, Array.mem_filter] at this
      refine ⟨by simpa using this.1, ?_⟩
      have := this.2
      simpa using this
    have hr2 : w2.heap[rb]? = some (.mapIter (some mb) c seen c) := by rw [h2.heap]; exact hr
    obtain ⟨s1, s2⟩ := setObj_run (P := P) (o1 := .mapIter (some mb) c (seen.push e.born) c) hr2 (fun _ _ _ h => by cases h)
    refine ⟨e, heL.1, heL.2, _, ?_, ⟨s2.at_, fun b hb => by rw [s2.other b hb, h2.heap], by rw [s2.size, h2.heap], by rw [s2.os, h2.os], by rw [s2.out, h2.out], by rw [s2.tape, h2.tape]⟩⟩
    simp only [Instr.next, Sem.run_bind, hgr, Result.andThen_ok, hgm, hnoneed, Bool.false_eq_true, if_false, hleft, hold, hnew, hem', Array.empty_append, Array.append_empty]
    have h1' : (choose (.mapNext (left.map some).size)).run P w = .ok n w2 := h1
    have hca : ((#[] : Array (Option MapEntry)) ++ left.map some) = left.map some := by simp
    simp only [hca, h1', Result.andThen_ok, h3, Sem.run_bind, s1, Sem.run_pure]

theorem entry_run {w : World} {rb mb c : Nat} {seen : Array Nat} {es : Array MapEntry} {e : MapEntry} (hr : w.heap[rb]? = some (.mapIter (some mb) c (seen.push e.born) c)) (hm : w.heap[mb]? = some (.map es c)) (he : e ∈ es.toList)
    (hnd : (es.toList.map (·.born)).Nodup) : (Instr.entry (.pointer (some ⟨rb, 0, none⟩))).run P w = .ok (.tuple #[e.key, e.val]) w := by
  have hfind : es.find? (·.born == e.born) = some e := by
    rw [← Array.find?_toList]
    have : ∀ l : List MapEntry, e ∈ l → (l.map (·.born)).Nodup → l.find? (·.born == e.born) = some e := by
      intro l
      induction l with
      | nil => intro h; simp at h
      | cons a l ih =>
        intro h hn
        simp only [List.map_cons, List.nodup_cons, List.mem_map, not_exists, not_and] at hn
        rcases List.mem_cons.1 h with rfl | h
        · simp
        · have hne : (a.born == e.born) = false := by
            have := hn.1 e h
            simp only [beq_eq_false_iff_ne, ne_eq]
            exact fun x => this x.symm
          simp only [List.find?_cons, hne]
          exact ih h hn.2
    exact this _ he hnd
  simp only [Instr.entry, Sem.run_bind, run_getObj_iter (P := P) hr, Result.andThen_ok, Array.back?_push, run_getObj_map (P := P) hm, bne_self_eq_false, Bool.false_eq_true, if_false, hfind, Sem.run_pure]

end Go.AM
