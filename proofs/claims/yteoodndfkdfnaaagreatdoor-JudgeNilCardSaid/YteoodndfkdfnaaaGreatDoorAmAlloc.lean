/- Operations that make memory; conversions. -/
import Derived.Test.YteoodndfkdfnaaaGreatDoorAmMap
namespace Go.AM
variable {P : Program} {o : Oper} {ι : Inj} {s : S} {w : World}

theorem WPush.mk' (w : World) (o : Obj) : WPush w { w with heap := w.heap.push o } o :=
  ⟨by simp, fun c hc => by simp [Array.getElem?_push, Nat.ne_of_lt hc], by simp, rfl, rfl, rfl⟩
theorem WPush.mkD (w : World) (o : Obj) (d : Nat) : WPush w { w with heap := w.heap.push o, drawn := d } o :=
  ⟨by simp, fun c hc => by simp [Array.getElem?_push, Nat.ne_of_lt hc], by simp, rfl, rfl, rfl⟩

theorem newB_rel {ι : Inj} {e : TypeId} {cs : List Value} {cells : Array Value} {fr : Nat × Nat} {top : Nat} (k : Nat) (h : VRelL ι cs (cells.toList.take cs.length)) (hle : cs.length ≤ cells.size) (ht : cells.size = top)
    (hfr : fr = (0, 0) ∨ fr = (top, top + 1)) : ORel P ι ⟨k, 0, top⟩ (newB e cs) (.cells cells e fr) := by
  refine .blk ht (by simp; omega) ?_ hfr
  intro i v hi hn
  rw [T.get_ofList] at hi
  simp only [Nat.zero_le, true_and, Nat.zero_add] at hi
  rw [if_pos hn] at hi
  simp only [Nat.sub_zero] at hi
  obtain ⟨v', h1, h2⟩ := h.get hi
  rw [List.getElem?_take, if_pos hn, Array.getElem?_toList] at h1
  exact ⟨v', by simpa using h1, h2⟩
theorem newB_rel' {ι : Inj} {e : TypeId} {cs : List Value} {cells : Array Value} (k : Nat) (h : VRelL ι cs cells.toList) : ORel P ι ⟨k, 0, cells.size⟩ (newB e cs) (.cells cells e) := by
  have hl := h.length
  simp only [Array.length_toList] at hl
  refine newB_rel k ?_ (by omega) rfl (.inl rfl)
  rw [List.take_of_length_le (by simp; omega)]; exact h
theorem newB_par (e : TypeId) (cs : List Value) (p : Nat) : ¬ Par (newB e cs) p := by simp [Par, newB]

theorem ok_alloc {e : TypeId} (ho : o.op = .alloc e) : RunOk P o (cr P (.alloc e)) := by
  simp only [cr]
  cases hz : zeroOf P e with
  | none => exact RunOk.no _ _
  | some z =>
    simp only []
    cases hp : plainV z with
    | false => exact RunOk.no _ _
    | true =>
      intro ι g ρ ob mk hv hr
      simp only [Option.some.injEq, Prod.mk.injEq] at hv
      obtain ⟨rfl, rfl⟩ := hv
      refine ⟨newB_par _ _, fun w => ⟨z.cells.size, .cells z.cells e, _, .pointer (some ⟨w.heap.size, 0, none⟩), WPush.mk' w _, ?_, ?_⟩⟩
      · simp [execOp, ho, Instr.alloc, run_zeroValue' hz, newVar, newRow]
      · intro ι' b hx hb
        refine ⟨newB_rel' _ ?_, by simpa [ptrTo] using VRel.ptr (off := 0) (sp := none) hb⟩
        cases z with
        | agg cs => show VRelL ι' cs.toList cs.toList; exact .plainL (by simpa [plainV] using hp)
        | _ => exact .cons (.plainV hp) .nil

theorem ok_box {e : TypeId} {x : Operand} (ho : o.op = .box e x) : RunOk P o (cr P (.box e x)) := by
  simp only [cr]
  cases hx : opdOk x with
  | false => exact RunOk.no _ _
  | true =>
    intro ι g ρ ob mk hv hr
    have hrx := hr x (by simp [ho, Op.operands]) hx
    simp only [] at hv
    cases hc : cellsOf (ev g x) with
    | none => simp [hc] at hv
    | some cs =>
      simp only [hc, Option.some.injEq, Prod.mk.injEq] at hv
      obtain ⟨rfl, rfl⟩ := hv
      refine ⟨newB_par _ _, fun w => ⟨(ρ x).cells.size, .cells (ρ x).cells e, _, .pointer (some ⟨w.heap.size, 0, none⟩), WPush.mk' w _, ?_, ?_⟩⟩
      · simp [execOp, ho, Instr.box, newVar, newRow]
      · intro ι' b hx' hb
        exact ⟨newB_rel' _ ((cellsOf_rel hc hrx).mono hx'), by simpa [ptrTo] using VRel.ptr (off := 0) (sp := none) hb⟩

theorem ok_makeMap {t : TypeId} {r : Option Operand} (ho : o.op = .makeMap t r) : RunOk P o (cr P (.makeMap t r)) := by
  simp only [cr]
  cases r with
  | some r => exact RunOk.no _ _
  | none =>
    intro ι g ρ ob mk hv hr
    simp only [Option.some.injEq, Prod.mk.injEq] at hv
    obtain ⟨rfl, rfl⟩ := hv
    refine ⟨fun p => by simp [Par], fun w => ⟨0, .map #[] 0, _, .map (some w.heap.size), WPush.mk' w _, ?_, ?_⟩⟩
    · simp [execOp, ho, Instr.makeMap]
    · intro ι' b hx hb
      exact ⟨.map (lst := []) (by simp) .nil .nil (by simp) (by simp), VRel.map hb⟩

theorem repL_length : ∀ (n : Nat) (l : List Value), (repL n l).length = n * l.length
  | 0, l => by simp [repL]
  | n + 1, l => by simp [repL, repL_length n l, Nat.succ_mul]; omega
theorem repL_get : ∀ (n : Nat) (l : List Value) (i : Nat), i < n * l.length → (repL n l)[i]? = l[i % l.length]?
  | 0, l, i, h => by simp at h
  | n + 1, l, i, h => by
    simp only [repL]
    by_cases hi : i < l.length
    · rw [List.getElem?_append_left hi, Nat.mod_eq_of_lt hi]
    · rw [List.getElem?_append_right (by omega), repL_get n l (i - l.length) (by rw [Nat.succ_mul] at h; omega)]
      congr 1
      rw [Nat.mod_eq_sub_mod (by omega : i ≥ l.length)]
/-- the model's row of zeros -/
theorem zeros_eq {z : Array Value} {n k : Nat} (hz : z.size ≠ 0) (hk : k = n * z.size) : ((Array.range k).map (fun i => z[i % z.size]!)).toList = repL n z.toList := by
  apply List.ext_getElem?
  intro i
  subst hk
  by_cases hi : i < n * z.size
  · rw [repL_get n z.toList i (by simpa using hi)]
    have hm : i % z.size < z.size := Nat.mod_lt _ (by omega)
    simp [hi, getElem!_pos, hm]
  · rw [List.getElem?_eq_none (by simp; omega), List.getElem?_eq_none (by rw [repL_length]; simp; omega)]
theorem repL_rel {ι : Inj} : ∀ (n : Nat) {l l' : List Value}, VRelL ι l l' → VRelL ι (repL n l) (repL n l')
  | 0, _, _, _ => .nil
  | n + 1, _, _, h => h.append (repL_rel n h)
theorem plain_cells {z : Value} (hp : plainV z = true) (ι : Inj) : VRelL ι z.cells.toList z.cells.toList := by
  cases z with
  | agg cs => show VRelL ι cs.toList cs.toList; exact .plainL (by simpa [plainV] using hp)
  | _ => exact .cons (.plainV hp) .nil

theorem sliceElem_eq {t e : TypeId} (h : sliceElem P t = some e) : P.underlying t = some (.slice e) := by
  unfold sliceElem at h
  cases hu : P.underlying t with
  | none => simp [hu] at h
  | some d => cases d <;> simp only [hu] at h <;> first | (cases h; done) | (cases h; rfl)

theorem ok_buildSlice {t : TypeId} {len : Nat} {parts : Array (Nat × Operand)} (ho : o.op = .buildSlice t len parts) : RunOk P o (cr P (.buildSlice t len parts)) := by
  simp only [cr]
  cases he : sliceElem P t with
  | none => exact RunOk.no _ _
  | some e =>
    simp only []
    cases hs : szOf P e with
    | none => exact RunOk.no _ _
    | some n =>
      cases hz : zeroOf P e with
      | none => exact RunOk.no _ _
      | some z =>
        simp only []
        cases hc : plainV z && Nat.beq z.cells.size n && !Nat.beq n 0 && Nat.ble (len * n) 16777216 with
        | false => exact RunOk.no _ _
        | true =>
          simp only [Bool.and_eq_true, Nat.beq_eq, Bool.not_eq_true', Nat.ble_eq] at hc
          obtain ⟨⟨⟨hp, hzs⟩, hn0⟩, hle⟩ := hc
          have hn : n ≠ 0 := fun e => by subst e; simp at hn0
          simp only [cond_true]
          cases hpl : placesA n parts.toList with
          | none => exact RunOk.no _ _
          | some ps =>
            have hops : o.op.operands.toList = parts.toList.map (·.2) := by rw [ho]; simp [Op.operands]
            have hu := sliceElem_eq he
            intro ι g ρ ob mk hv hr
            simp only [] at hv
            cases hfl : fillL (repL len z.cells.toList) (partsL g ps) with
            | none => simp [hfl] at hv
            | some cs =>
              simp only [hfl, Option.some.injEq, Prod.mk.injEq] at hv
              obtain ⟨rfl, rfl⟩ := hv
              obtain ⟨h1, h2⟩ := placesA_get hpl
              have hbase : VRelL ι (repL len z.cells.toList) ((Array.range (len * n)).map (fun i => z.cells[i % z.cells.size]!)).toList := by
                rw [zeros_eq (n := len) (by omega) (by rw [hzs])]
                exact repL_rel _ (plain_cells hp ι)
              obtain ⟨cs', e1, e2⟩ := fill_rel (place := fun i => some (i * n, n))
                (ps' := (parts.map fun (i, x) => (i, ρ x)).toList) hfl hbase (by simp [partsL_length, h1]) (by
                  intro k off m v hk
                  rw [partsL_get] at hk
                  cases hpk : ps[k]? with
                  | none => simp [hpk] at hk
                  | some q =>
                    obtain ⟨a, b, x⟩ := q
                    simp only [hpk, Option.map_some, Option.some.injEq, Prod.mk.injEq] at hk
                    obtain ⟨rfl, rfl, rfl⟩ := hk
                    obtain ⟨hox, rfl, i, hl, rfl⟩ := h2 k _ _ _ hpk
                    refine ⟨i, ρ x, by simp [hl], rfl, hr x ?_ hox⟩
                    rw [hops]
                    exact List.mem_map.2 ⟨(i, x), List.mem_of_getElem? hl, rfl⟩)
              refine ⟨newB_par _ _, fun w => ⟨cs'.size, .cells cs' e, _, .slice (some ⟨w.heap.size, 0, none⟩) len len, WPush.mk' w _, ?_, ?_⟩⟩
              · have h24 : ¬ (len * n > 16777216) := by omega
                have hz0 : ¬ (len * n = 0) ∨ len * n = 0 := by omega
                simp only [execOp, ho, Instr.buildSlice, Sem.run_bind, run_underlying hu, Result.andThen_ok, run_sizeOf' hs]
                have h24' : ¬ (len * n > 2 ^ 24) := by simpa using h24
                by_cases h0 : len * n = 0
                · have hl0 : len = 0 := by
                    rcases Nat.mul_eq_zero.1 h0 with x | x
                    · exact x
                    · exact absurd x hn
                  subst hl0
                  have e1' : Instr.fill (fun i => some (i * n, n)) ((Array.range (0 * n)).map (fun i => z.cells[i % z.cells.size]!)) (parts.map fun p => (p.1, ρ p.2)).toList = some cs' := e1
                  have hrz : Array.range 0 = #[] := rfl
                  simp [hrz] at e1'
                  simp [newRow, hrz, e1']
                · simp only [h24', if_false, h0, Sem.run_bind, run_zeroValue' hz, Sem.run_pure, Result.andThen_ok]
                  rw [e1]; simp [newRow]
              · intro ι' b hx hb
                refine ⟨newB_rel' _ (e2.mono hx), ?_⟩
                exact VRel.slice hb (Nat.le_refl _) (Nat.le_refl _) (fun _ => rfl) (fun _ h => by cases h) (fun _ => rfl)

theorem wrap64_id {n : Int} (h : -9223372036854775808 ≤ n) (h' : n ≤ 9223372036854775807) : IntKind.i64.wrap n = n := by
  simp only [IntKind.wrap, IntKind.bits, IntKind.signed, Bool.true_and, Int.reducePow, Nat.reduceSub]; split <;> rename_i hh <;> (simp at hh; omega)

theorem ok_makeSlice {t : TypeId} {l c : Operand} (ho : o.op = .makeSlice t l c) : RunOk P o (cr P (.makeSlice t l c)) := by
  simp only [cr]
  cases hx : opdOk l && opdOk c with
  | false => exact RunOk.no _ _
  | true =>
    simp only [Bool.and_eq_true] at hx
    simp only [cond_true]
    cases he : sliceElem P t with
    | none => exact RunOk.no _ _
    | some e =>
      simp only []
      cases hi : P.info? e with
      | none => exact RunOk.no _ _
      | some i =>
        simp only []
        cases hz : i.zero with
        | none => exact RunOk.no _ _
        | some z =>
          simp only []
          cases hc : plainV z && Nat.beq z.cells.size i.size && !Nat.beq i.size 0 with
          | false => exact RunOk.no _ _
          | true =>
            simp only [Bool.and_eq_true, Nat.beq_eq, Bool.not_eq_true'] at hc
            obtain ⟨⟨hp, hzs⟩, hn0⟩ := hc
            have hn : i.size ≠ 0 := fun e => by rw [e] at hn0; simp at hn0
            have hu := sliceElem_eq he
            have hzo : zeroOf P e = some z := by simp [zeroOf, hi, hz]
            have hso : szOf P e = some i.size := by simp [szOf, hi]
            intro ι g ρ ob mk hv hr
            have hrl := hr l (by simp [ho, Op.operands]) hx.1
            have hrc := hr c (by simp [ho, Op.operands]) hx.2
            simp only [] at hv
            cases hel : ev g l <;> simp only [hel] at hv <;> try (cases hv; done)
            cases hec : ev g c <;> simp only [hec] at hv <;> try (cases hv; done)
            rename_i k1 l' k2 c'
            rw [hel] at hrl; rw [hec] at hrc
            have e1 := hrl.int_inv; have e2 := hrc.int_inv
            cases hb : decide (0 ≤ l') && decide (l' ≤ c') && inR 0 100000000 c' && Nat.ble (i.bytes * c'.toNat) 1000000000 with
            | false => rw [hb] at hv; cases hv
            | true =>
              rw [hb] at hv
              simp only [cond_true, Option.some.injEq, Prod.mk.injEq] at hv
              obtain ⟨rfl, rfl⟩ := hv
              simp only [inR, Bool.and_eq_true, decide_eq_true_eq, Nat.ble_eq] at hb
              obtain ⟨⟨⟨hl0, hlc⟩, _, hc1⟩, hby⟩ := hb
              obtain ⟨ln, rfl⟩ := Int.eq_ofNat_of_zero_le hl0
              obtain ⟨cn, rfl⟩ := Int.eq_ofNat_of_zero_le (Int.le_trans hl0 hlc)
              have hby' : i.bytes * cn ≤ 1000000000 := by simpa using hby
              refine ⟨newB_par _ _, fun w => ⟨cn * i.size, .cells ((Array.range (cn * i.size)).map (fun j => z.cells[j % z.cells.size]!)) e, _, .slice (some ⟨w.heap.size, 0, none⟩) ln cn, WPush.mk' w _, ?_, ?_⟩⟩
              · have w1 : IntKind.i64.wrap (ln : Int) = ln := wrap64_id (by omega) (by omega)
                have w2 : IntKind.i64.wrap (cn : Int) = cn := wrap64_id (by omega) (by omega)
                have hb1 : ((i.bytes : Int) * (cn : Int)) = ((i.bytes * cn : Nat) : Int) := by simp
                have hcond : ¬ ((((cn : Int) < 0) || ((i.bytes : Int) * (cn : Int) > 2 ^ 48) || ((ln : Int) < 0) || ((ln : Int) > (cn : Int))) = true) := by
                  rw [hb1]; simp only [Bool.or_eq_true, decide_eq_true_eq, not_or]; omega
                have hnz : cn * i.size = 0 ∨ cn * i.size ≠ 0 := by omega
                have hti : (typeInfo e).run P w = .ok i w := run_typeInfo' hi w
                simp only [execOp, ho, e1, e2, Instr.makeSlice, Sem.run_bind, run_underlying hu, Result.andThen_ok, asInt, asIntOf, Sem.run_pure, hti, w1, w2]
                rw [if_neg (by simpa [Bool.or_assoc] using hcond)]
                simp only [Sem.run_pure, Result.andThen_ok, Sem.run_bind, run_askRoom, run_sizeOf' hso, Int.toNat_natCast]
                by_cases h0 : cn * i.size = 0
                · have hrz : Array.range 0 = #[] := rfl
                  simp [h0, newRow, hrz]
                · simp [h0, run_zeroValue' hzo, newRow]
              · intro ι' b hx' hb'
                have hsz : ((Array.range (cn * i.size)).map (fun j => z.cells[j % z.cells.size]!)).size = cn * i.size := by simp
                have hzq : ((Array.range (cn * i.size)).map (fun j => z.cells[j % z.cells.size]!)).toList = repL cn z.cells.toList := zeros_eq (by omega) (by rw [hzs])
                refine ⟨?_, ?_⟩
                · have := newB_rel' (P := P) (ι := ι') (e := e) (cs := repL cn z.cells.toList) (cells := (Array.range (cn * i.size)).map (fun j => z.cells[j % z.cells.size]!)) w.heap.size
                    (by rw [hzq]; exact repL_rel _ (plain_cells hp _))
                  rw [hsz] at this
                  simpa using this
                · exact VRel.slice hb' (by simp; omega) (Nat.le_refl _) (fun _ => rfl) (fun _ h => by cases h) (fun _ => rfl)

end Go.AM
