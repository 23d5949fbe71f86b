/- Maps: look-ups and stores. -/
import Derived.Test.YteoodndfkdfnaaaGreatDoorAmRead
namespace Go.AM
variable {P : Program} {o : Oper} {ι : Inj} {s : S} {w : World}

def descOf : KeyKind → TypeDesc
  | .int k => .int k
  | .str => .string
theorem keyKind_eq {t : TypeId} {kk : KeyKind} (h : keyKind P t = some kk) : P.underlying t = some (descOf kk) := by
  unfold keyKind at h
  cases hu : P.underlying t with
  | none => simp [hu] at h
  | some d => cases d <;> simp only [hu] at h <;> first | (cases h; done) | (cases h; rfl)

theorem bytes_beq (a b : ByteArray) : (a == b) = decide (a = b) := by
  show (a.data == b.data) = decide (a = b)
  by_cases h : a = b
  · subst h; simp
  · have : ¬ a.data = b.data := fun e => h (ByteArray.ext e)
    simp [h, this]
theorem bytes_eq_iff (a b : ByteArray) : a = b ↔ a.data.toList = b.data.toList := by
  constructor
  · intro h; rw [h]
  · intro h; apply ByteArray.ext; exact Array.toList_inj.1 h

theorem key_spec {kk : KeyKind} {x y : Value} (hx : keyOk kk x = true) (hy : keyOk kk y = true) :
    ∃ b, Instr.sameNow (descOf kk) x y = some b ∧ keyEq kk x y = some b ∧ (b = true ↔ x = y) ∧ (b = false → KeyNe x y) := by
  cases kk with
  | int k =>
    cases x <;> simp only [keyOk] at hx <;> try (cases hx; done)
    cases y <;> simp only [keyOk] at hy <;> try (cases hy; done)
    have e1 := kindEq_eq hx; have e2 := kindEq_eq hy
    subst e1; subst e2
    rename_i m n
    refine ⟨decide (m = n), ?_, ?_, ?_, ?_⟩
    · simp [Instr.sameNow, descOf]; rfl
    · simp [keyEq, hx]
    · simp
    · intro h; exact ⟨rfl, by simpa using h⟩
  | str =>
    cases x <;> simp only [keyOk] at hx <;> try (cases hx; done)
    cases y <;> simp only [keyOk] at hy <;> try (cases hy; done)
    rename_i a b
    refine ⟨decide (a = b), ?_, ?_, ?_, ?_⟩
    · simp [Instr.sameNow, descOf, bytes_beq]
    · simp only [keyEq, bytesEq_eq, Option.some.injEq]
      by_cases h : a = b
      · subst h; simp
      · have : ¬ a.data = b.data := fun e => h (ByteArray.ext e)
        simp [h, this]
    · simp
    · intro h; exact fun e => by simp [e] at h

theorem keyOk_vrel {kk : KeyKind} {x x' : Value} (h : keyOk kk x = true) (r : VRel ι x x') : x' = x := by
  cases kk with
  | int k => cases x <;> simp only [keyOk] at h <;> try (cases h; done)
             exact r.int_inv
  | str => cases x <;> simp only [keyOk] at h <;> try (cases h; done)
           exact r.string_inv
theorem keyEq_ok {kk : KeyKind} {x y : Value} {b : Bool} (h : keyEq kk x y = some b) : keyOk kk x = true ∧ keyOk kk y = true := by
  unfold keyEq at h
  split at h
  · rename_i k a m b' n
    cases hk : kindEq k a && kindEq k b' with
    | false => rw [hk] at h; cases h
    | true => simp only [Bool.and_eq_true] at hk; simp [keyOk, hk]
  · exact ⟨rfl, rfl⟩
  · cases h
theorem KeyNe.ok {kk : KeyKind} {x y : Value} (h : KeyNe x y) : keyOk kk x = keyOk kk y := by
  unfold KeyNe at h
  split at h
  · obtain ⟨rfl, _⟩ := h; cases kk <;> rfl
  · cases kk <;> rfl
  · exact h.elim
theorem KeyNe.ne {x y : Value} (h : KeyNe x y) : x ≠ y := by
  unfold KeyNe at h
  split at h
  · intro e; cases e; exact h.2 rfl
  · intro e; cases e; exact h rfl
  · exact h.elim

theorem keys_ok {kk : KeyKind} {es : List (Value × Value)} (hp : es.Pairwise (fun a b => KeyNe a.1 b.1)) (h : ∀ p l, es = p :: l → keyOk kk p.1 = true) :
    ∀ p ∈ es, keyOk kk p.1 = true := by
  cases es with
  | nil => simp
  | cons q l =>
    intro p hp'
    rcases List.mem_cons.1 hp' with rfl | hm
    · exact h _ _ rfl
    · rw [List.pairwise_cons] at hp
      have := (hp.1 p hm).ok (kk := kk)
      rw [← this]; exact h _ _ rfl

/-- what a look-up finds -/
theorem findK_spec {kk : KeyKind} {k : Value} : ∀ {es : List (Value × Value)} {r : Option Value}, findK kk k es = some r → (∀ p ∈ es, keyOk kk p.1 = true) → keyOk kk k = true →
    (∃ v, r = some v ∧ (k, v) ∈ es) ∨ (r = none ∧ ∀ p ∈ es, p.1 ≠ k)
  | [], r, h, _, _ => by simp only [findK, Option.some.injEq] at h; subst h; exact .inr ⟨rfl, by simp⟩
  | (k', v) :: es, r, h, hk, h0 => by
    obtain ⟨b, _, e2, e3, _⟩ := key_spec h0 (hk (k', v) (by simp))
    simp only [findK, e2] at h
    cases b with
    | true =>
      simp only [Option.some.injEq] at h; subst h
      have := e3.1 rfl
      subst this
      exact .inl ⟨v, rfl, by simp⟩
    | false =>
      simp only [] at h
      rcases findK_spec h (fun p hp => hk p (by simp [hp])) h0 with ⟨u, a, b⟩ | ⟨a, b⟩
      · exact .inl ⟨u, a, by simp [b]⟩
      · refine .inr ⟨a, fun p hp => ?_⟩
        rcases List.mem_cons.1 hp with rfl | hm
        · intro e; have := e3.2 e.symm; cases this
        · exact b p hm
theorem findK_first {kk : KeyKind} {k : Value} {es : List (Value × Value)} {r : Option Value} (h : findK kk k es = some r) : ∀ p l, es = p :: l → keyOk kk p.1 = true := by
  intro p l e
  subst e
  obtain ⟨k', v⟩ := p
  simp only [findK] at h
  cases he : keyEq kk k k' with
  | none => simp [he] at h
  | some b => exact (keyEq_ok he).2

theorem EsRel.mem {ι : Inj} : ∀ {es : List (Value × Value)} {l : List MapEntry}, EsRel ι es l → ∀ p ∈ es, ∃ e ∈ l, VRel ι p.1 e.key ∧ VRel ι p.2 e.val
  | _, _, .nil, p, h => by simp at h
  | _, _, .cons a b c, p, h => by
    rcases List.mem_cons.1 h with rfl | hm
    · exact ⟨_, by simp, a, b⟩
    · obtain ⟨e, x, y⟩ := c.mem p hm; exact ⟨e, by simp [x], y⟩
theorem EsRel.mem' {ι : Inj} : ∀ {es : List (Value × Value)} {l : List MapEntry}, EsRel ι es l → ∀ e ∈ l, ∃ p ∈ es, VRel ι p.1 e.key ∧ VRel ι p.2 e.val
  | _, _, .nil, p, h => by simp at h
  | _, _, .cons a b c, p, h => by
    rcases List.mem_cons.1 h with rfl | hm
    · exact ⟨(_, _), List.mem_cons_self, a, b⟩
    · obtain ⟨e, x, y⟩ := c.mem' p hm; exact ⟨e, by simp [x], y⟩

theorem findNow_spec {d : TypeDesc} {k : Value} : ∀ {l : List MapEntry} (i : Nat), (∀ e ∈ l, ∃ b, Instr.sameNow d k e.key = some b ∧ (b = true ↔ k = e.key)) →
    (∃ j e, l[j]? = some e ∧ e.key = k ∧ Instr.findNow d k l i = some (some (i + j, e.val))) ∨ ((∀ e ∈ l, e.key ≠ k) ∧ Instr.findNow d k l i = some none)
  | [], i, _ => .inr ⟨by simp, rfl⟩
  | e :: l, i, h => by
    obtain ⟨b, h1, h2⟩ := h e (by simp)
    simp only [Instr.findNow, h1]
    cases b with
    | true => exact .inl ⟨0, e, rfl, (h2.1 rfl).symm, rfl⟩
    | false =>
      simp only []
      rcases findNow_spec (l := l) (i + 1) (fun e' he => h e' (by simp [he])) with ⟨j, e', a, b, c⟩ | ⟨a, b⟩
      · exact .inl ⟨j + 1, e', by simpa using a, b, by rw [c]; congr 3; omega⟩
      · refine .inr ⟨fun e' he => ?_, b⟩
        rcases List.mem_cons.1 he with rfl | hm
        · intro x; have := h2.2 x.symm; cases this
        · exact a e' hm

theorem run_checkKey {t : TypeId} {kk : KeyKind} (hk : keyKind P t = some kk) (b : Bool) (n : Nat) (x : Value) (hx : keyOk kk x = true) (w : World) :
    (Instr.checkKey b (n + 1) t x).run P w = .ok () w := by
  have hu := keyKind_eq hk
  simp only [Instr.checkKey, Sem.run_bind, run_underlying hu, Result.andThen_ok]
  cases kk with
  | int k => cases x <;> simp only [keyOk] at hx <;> first | (cases hx; done) | rfl
  | str => cases x <;> simp only [keyOk] at hx <;> first | (cases hx; done) | rfl

/-- the model's search, over the entries as they lie -/
theorem run_findKey {t : TypeId} {kk : KeyKind} (hk : keyKind P t = some kk) {k : Value} (hkk : keyOk kk k = true) {es : List (Value × Value)} {lst es' : List MapEntry} (hp : lst.Perm es') (hr : EsRel ι es lst)
    (hpw : es.Pairwise (fun a b => KeyNe a.1 b.1)) (hks : ∀ p ∈ es, keyOk kk p.1 = true) (w : World) :
    (∃ v j e, (k, v) ∈ es ∧ es'[j]? = some e ∧ e.key = k ∧ VRel ι v e.val ∧ (Instr.findKey t k es').run P w = .ok (some (j, e.val)) w) ∨
    ((∀ p ∈ es, p.1 ≠ k) ∧ (∀ e ∈ es', e.key ≠ k) ∧ (Instr.findKey t k es').run P w = .ok none w) := by
  have hu := keyKind_eq hk
  have hall : ∀ e ∈ es', ∃ b, Instr.sameNow (descOf kk) k e.key = some b ∧ (b = true ↔ k = e.key) := by
    intro e he
    obtain ⟨p, hm, r1, _⟩ := hr.mem' e (hp.mem_iff.2 he)
    have hko := hks p hm
    rw [keyOk_vrel hko r1]
    obtain ⟨b, a1, _, a3, _⟩ := key_spec hkk hko
    exact ⟨b, a1, a3⟩
  rcases findNow_spec 0 hall with ⟨j, e, a, b, c⟩ | ⟨a, b⟩
  · obtain ⟨p, hm, r1, r2⟩ := hr.mem' e (hp.mem_iff.2 (List.mem_of_getElem? a))
    have hko := hks p hm
    have := keyOk_vrel hko r1
    refine .inl ⟨p.2, j, e, ?_, a, b, r2, ?_⟩
    · rw [← b, this]; exact hm
    · simp only [Instr.findKey, Sem.run_bind, run_underlying hu, Result.andThen_ok, c, Nat.zero_add, Sem.run_pure]
  · refine .inr ⟨fun p hm => ?_, a, ?_⟩
    · obtain ⟨e, he, r1, _⟩ := hr.mem p hm
      have := keyOk_vrel (hks p hm) r1
      rw [← this]; exact a e (hp.mem_iff.1 he)
    · simp only [Instr.findKey, Sem.run_bind, run_underlying hu, Result.andThen_ok, b, Sem.run_pure]

theorem pair_unique {es : List (Value × Value)} (hpw : es.Pairwise (fun a b => KeyNe a.1 b.1)) {k v v' : Value} (h : (k, v) ∈ es) (h' : (k, v') ∈ es) : v = v' := by
  induction es with
  | nil => simp at h
  | cons p l ih =>
    rw [List.pairwise_cons] at hpw
    rcases List.mem_cons.1 h with e1 | h1
    · rcases List.mem_cons.1 h' with e2 | h2
      · rw [← e1] at e2; cases e2; rfl
      · rw [← e1] at hpw; exact absurd rfl (hpw.1 _ h2).ne
    · rcases List.mem_cons.1 h' with e2 | h2
      · rw [← e2] at hpw; exact absurd rfl (hpw.1 _ h1).ne
      · exact ih hpw.2 h1 h2

theorem ok_lookup {t : TypeId} {x k : Operand} {ok : Bool} (ho : o.op = .lookup t x k ok) : RunOk P o (cr P (.lookup t x k ok)) := by
  simp only [cr]
  cases hx : opdOk x && opdOk k with
  | false => exact RunOk.no _ _
  | true =>
    simp only [Bool.and_eq_true] at hx
    simp only [cond_true]
    cases hu : P.underlying t with
    | none => exact RunOk.no _ _
    | some d =>
      cases d with
      | map kt et =>
        simp only []
        cases hkk : keyKind P kt with
        | none => exact RunOk.no _ _
        | some kk =>
          cases hz : zeroOf P et with
          | none => exact RunOk.no _ _
          | some z =>
            simp only []
            cases hp : plainV z with
            | false => exact RunOk.no _ _
            | true =>
              intro ι s w g ρ v hv hS hr
              have hrx := hr x (by simp [ho, Op.operands]) hx.1
              have hrk := hr k (by simp [ho, Op.operands]) hx.2
              simp only [] at hv
              cases hko : keyOk kk (ev g k) with
              | false => rw [hko] at hv; cases hv
              | true =>
                rw [hko] at hv; simp only [cond_true] at hv
                have ek := keyOk_vrel hko hrk
                have hres : ∀ (u u' : Value) (b : Bool), VRel ι u u' → VRel ι (bif ok then .tuple #[u, .bool b] else u) (if ok = true then .tuple #[u', .bool b] else u') := by
                  intro u u' b hu
                  cases ok with
                  | true => exact .tuple (.cons hu (.cons (.bool _) .nil))
                  | false => exact hu
                cases he : ev g x with
                | map r =>
                  rw [he] at hrx
                  cases r with
                  | none =>
                    simp only [he, Option.some.injEq] at hv; subst hv
                    have e := hrx.nilmap_inv
                    refine ⟨_, hres z z false (.plainV hp), ?_⟩
                    simp only [execOp, ho, e, ek, Instr.lookup, Sem.run_bind, run_underlying hu, Result.andThen_ok, Sem.run_pure, run_checkKey hkk _ _ _ hko, Instr.findKey, run_underlying (keyKind_eq hkk),
                      Instr.findNow, run_zeroValue' hz]
                  | some r =>
                    simp only [he] at hv
                    cases hg : s.h.get r with
                    | none => simp [hg] at hv
                    | some ob =>
                      cases ob <;> simp only [hg] at hv <;> try (cases hv; done)
                      rename_i es clk
                      obtain ⟨l, hi, e⟩ := hrx.map_inv
                      obtain ⟨es', lst, h1, h2, h3, h4, _, _⟩ := hS.mapAt hi hg
                      cases hf : findK kk (ev g k) es with
                      | none => simp [hf] at hv
                      | some r' =>
                        have hks := keys_ok (kk := kk) h4 (findK_first hf)
                        have hkf := run_findKey hkk hko h2 h3 h4 hks w
                        simp only [hf] at hv
                        rcases findK_spec hf hks hko with ⟨u, hru, hmem⟩ | ⟨hru, hno⟩
                        · subst hru
                          simp only [Option.some.injEq] at hv; subst hv
                          rcases hkf with ⟨v2, j, e2, hm2, _, _, hv2, hrun⟩ | ⟨hn, _, _⟩
                          · have := pair_unique h4 hmem hm2; subst this
                            refine ⟨_, hres _ _ true hv2, ?_⟩
                            simp only [execOp, ho, e, ek, Instr.lookup, Sem.run_bind, run_underlying hu, Result.andThen_ok, run_getObj_map h1, Sem.run_pure, run_checkKey hkk _ _ _ hko, hrun]
                          · exact absurd rfl (hn _ hmem)
                        · subst hru
                          simp only [Option.some.injEq] at hv; subst hv
                          rcases hkf with ⟨v2, j, e2, hm2, _, _, hv2, hrun⟩ | ⟨_, _, hrun⟩
                          · exact absurd rfl (hno _ hm2)
                          · refine ⟨_, hres z z false (.plainV hp), ?_⟩
                            simp only [execOp, ho, e, ek, Instr.lookup, Sem.run_bind, run_underlying hu, Result.andThen_ok, run_getObj_map h1, Sem.run_pure, run_checkKey hkk _ _ _ hko, hrun, run_zeroValue' hz]
                | _ => simp [he] at hv
      | _ => exact RunOk.no _ _

end Go.AM
