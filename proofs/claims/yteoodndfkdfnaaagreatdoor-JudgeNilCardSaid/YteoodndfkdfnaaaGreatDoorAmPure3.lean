/- Operations that look at no memory, 3: places, parts, values. -/
import Derived.Test.YteoodndfkdfnaaaGreatDoorAmPure2
namespace Go.AM
variable {P : Program} {o : Oper}

theorem ok_unOp {op : UnOp} {t : TypeId} {x : Operand} (ho : o.op = .unOp op t x) : RunOk P o (cr P (.unOp op t x)) := by
  simp only [cr]
  cases hx : opdOk x with
  | false => exact RunOk.no _ _
  | true =>
    cases op with
    | not =>
      intro ι g ρ v hv hr
      have hrx := hr x (by simp [ho, Op.operands]) hx
      simp only [] at hv
      cases he : ev g x <;> simp only [he] at hv <;> try (cases hv; done)
      rw [he] at hrx; have := hrx.bool_inv
      simp only [Option.some.injEq] at hv; subst hv
      exact ⟨_, .bool _, fun w => by simp [execOp, ho, this, Op.unary]⟩
    | neg =>
      intro ι g ρ v hv hr
      have hrx := hr x (by simp [ho, Op.operands]) hx
      simp only [] at hv
      cases he : ev g x <;> simp only [he] at hv <;> try (cases hv; done)
      rw [he] at hrx; have := hrx.int_inv
      simp only [Option.some.injEq] at hv; subst hv
      exact ⟨_, .int _ _, fun w => by simp [execOp, ho, this, Op.unary, Op.intArith, wrapF_eq]⟩
    | _ => exact RunOk.no _ _

theorem ok_makeInterface {t : TypeId} {x : Operand} (ho : o.op = .makeInterface t x) : RunOk P o (cr P (.makeInterface t x)) := by
  simp only [cr]
  cases hx : opdOk x with
  | false => exact RunOk.no _ _
  | true =>
    have main : ∀ d, P.underlying t = some d → (∀ m, d ≠ .interface m) → PuOk P o (fun g => bif notTup (ev g x) then some (.iface t (ev g x)) else none) := by
      intro d hu hd ι g ρ v hv hr
      have hrx := hr x (by simp [ho, Op.operands]) hx
      simp only [] at hv
      cases hn : notTup (ev g x) with
      | false => simp [hn] at hv
      | true =>
        simp only [hn, cond_true, Option.some.injEq] at hv; subst hv
        refine ⟨.iface t (ρ x), .iface hrx, fun w => ?_⟩
        simp only [execOp, ho, Instr.makeInterface, Sem.run_bind, run_underlying hu, Result.andThen_ok]
        cases d <;> first | rfl | exact absurd rfl (hd _)
    cases hu : P.underlying t with
    | none => exact RunOk.no _ _
    | some d => cases d <;> first | exact RunOk.no _ _ | exact main _ hu (by intro m h; cases h)

theorem evs_rel {ι : Inj} {g : T Value} {ρ : Operand → Value} : ∀ {xs : List Operand}, opdsOk xs = true → ORho ι g ρ xs → VRelL ι (evs g xs) (xs.map ρ)
  | [], _, _ => .nil
  | x :: xs, h, hr => by
    simp only [opdsOk, Bool.and_eq_true] at h
    exact .cons (hr x (by simp) h.1) (evs_rel h.2 fun y hy => hr y (by simp [hy]))
theorem ORho.sub {ι : Inj} {g : T Value} {ρ : Operand → Value} {xs ys : List Operand} (h : ORho ι g ρ xs) (hs : ∀ x ∈ ys, x ∈ xs) : ORho ι g ρ ys := fun x hx => h x (hs x hx)

theorem ok_makeFunc {fn : Fn} {first captured : Array Operand} (ho : o.op = .makeFunc fn first captured) : RunOk P o (cr P (.makeFunc fn first captured)) := by
  cases fn with
  | func f =>
    simp only [cr]
    cases hx : opdsOk first.toList && opdsOk captured.toList with
    | false => exact RunOk.no _ _
    | true =>
      simp only [Bool.and_eq_true] at hx
      intro ι g ρ v hv hr
      simp only [] at hv
      cases hn : allNotTup (evs g first.toList) && allNotTup (evs g captured.toList) with
      | false => simp [hn] at hv
      | true =>
        simp only [hn, cond_true, Option.some.injEq] at hv; subst hv
        refine ⟨.func (.func f) (first.map ρ) (captured.map ρ), .func ?_ ?_, fun w => by simp [execOp, ho, Instr.makeFunc]⟩
        · simpa using evs_rel hx.1 (hr.sub (by intro y hy; simp only [ho, Op.operands, Array.toList_append, List.mem_append]; exact .inl hy))
        · simpa using evs_rel hx.2 (hr.sub (by intro y hy; simp only [ho, Op.operands, Array.toList_append, List.mem_append]; exact .inr hy))
  | _ => exact RunOk.no _ _

theorem ok_fieldAddr {t : TypeId} {x : Operand} {f : Nat} (ho : o.op = .fieldAddr t x f) : RunOk P o (cr P (.fieldAddr t x f)) := by
  simp only [cr]
  cases hx : opdOk x with
  | false => exact RunOk.no _ _
  | true =>
    cases hu : P.underlying t with
    | none => exact RunOk.no _ _
    | some d =>
      cases d with
      | struct fs =>
        simp only [cond_true]
        cases hf : fs[f]? with
        | none => exact RunOk.no _ _
        | some fd =>
          simp only []
          cases hs : szOf P fd.type with
          | none => exact RunOk.no _ _
          | some n =>
            cases n with
            | zero => exact RunOk.no _ _
            | succ n =>
              intro ι g ρ v hv hr
              have hrx := hr x (by simp [ho, Op.operands]) hx
              simp only [] at hv
              cases he : ev g x with
              | pointer a =>
                cases a with
                | none => simp [he] at hv
                | some a =>
                  simp only [he, Option.some.injEq] at hv; subst hv
                  rw [he] at hrx
                  obtain ⟨l, hl, e⟩ := hrx.ptr_inv
                  refine ⟨.pointer (some ⟨l.blk, l.base + (a.off + fd.offset), none⟩), .ptr hl, fun w => ?_⟩
                  simp [execOp, ho, e, Instr.fieldAt, run_underlying hu, hf, Instr.sureAddr, fieldPlace, run_sizeOf' hs, Addr.add_none, Nat.add_assoc]
              | _ => simp [he] at hv
      | _ => exact RunOk.no _ _

theorem part_run {t : TypeId} {d : TypeDesc} {n : Nat} (hu : P.underlying t = some d) (hs : szOf P t = some n) {ι : Inj} {cs : List Value} {cs' : Array Value} {off : Nat} {v : Value}
    (h : partL (aggB P t) n cs off = some v) (hr : VRelL ι cs cs'.toList) : ∃ v', VRel ι v v' ∧ ∀ w, (part t cs' off).run P w = .ok v' w := by
  unfold partL at h
  cases ha : aggB P t with
  | true =>
    simp only [ha, cond_true, Option.some.injEq] at h; subst h
    refine ⟨.agg (cs'.extract off (off + n)), .agg ?_, fun w => ?_⟩
    · simp only [Array.toList_extract, List.extract_eq_take_drop, Nat.add_sub_cancel_left]
      exact (hr.drop off).take n
    · simp [part, run_isAgg' hu, ha, run_sizeOf' hs]
  | false =>
    simp only [ha, cond_false] at h
    obtain ⟨v', h1, h2⟩ := hr.get h
    refine ⟨v', h2, fun w => ?_⟩
    have : cs'[off]? = some v' := by simpa using h1
    simp [part, run_isAgg' hu, ha, this]

theorem ok_field {t : TypeId} {x : Operand} {f : Nat} (ho : o.op = .field t x f) : RunOk P o (cr P (.field t x f)) := by
  simp only [cr]
  cases hx : opdOk x with
  | false => exact RunOk.no _ _
  | true =>
    cases hu : P.underlying t with
    | none => exact RunOk.no _ _
    | some d =>
      cases d with
      | struct fs =>
        simp only [cond_true]
        cases hf : fs[f]? with
        | none => exact RunOk.no _ _
        | some fd =>
          simp only []
          cases hd : P.underlying fd.type with
          | none => exact RunOk.no _ _
          | some d =>
            cases hs : szOf P fd.type with
            | none => exact RunOk.no _ _
            | some n =>
              intro ι g ρ v hv hr
              have hrx := hr x (by simp [ho, Op.operands]) hx
              simp only [] at hv
              cases he : ev g x <;> simp only [he] at hv <;> try (cases hv; done)
              rw [he] at hrx
              obtain ⟨cs', e, hl⟩ := hrx.agg_inv
              obtain ⟨v', h1, h2⟩ := part_run hd hs hv hl
              exact ⟨v', h1, fun w => by simp [execOp, ho, e, Instr.field, run_underlying hu, hf, asAgg, h2 w]⟩
      | _ => exact RunOk.no _ _

theorem natOf_eq {i : Int} {n j : Nat} (h : natOf i n = some j) : 0 ≤ i ∧ i < n ∧ i.toNat = j := by
  unfold natOf at h
  cases hc : decide (0 ≤ i) && Nat.blt i.toNat n with
  | false => simp [hc] at h
  | true =>
    simp only [hc, cond_true, Option.some.injEq] at h
    simp only [Bool.and_eq_true, decide_eq_true_eq, Nat.blt_eq] at hc
    exact ⟨hc.1, by omega, h⟩

theorem ok_indexAddr {t : TypeId} {x i : Operand} (ho : o.op = .indexAddr t x i) : RunOk P o (cr P (.indexAddr t x i)) := by
  simp only [cr]
  cases hx : opdOk x && opdOk i with
  | false => exact RunOk.no _ _
  | true =>
    simp only [Bool.and_eq_true] at hx
    cases hu : P.underlying t with
    | none => exact RunOk.no _ _
    | some d =>
      cases d with
      | slice e =>
        simp only [cond_true]
        cases hs : szOf P e with
        | none => exact RunOk.no _ _
        | some z =>
          intro ι g ρ v hv hr
          have hrx := hr x (by simp [ho, Op.operands]) hx.1
          have hri := hr i (by simp [ho, Op.operands]) hx.2
          simp only [] at hv
          cases he : ev g x with
          | slice a n c =>
            cases a with
            | none => simp [he] at hv
            | some a =>
              cases hi : ev g i with
              | int k j =>
                simp only [he, hi] at hv
                cases hn : natOf j n with
                | none => simp [hn] at hv
                | some m =>
                  simp only [hn, Option.some.injEq] at hv; subst hv
                  obtain ⟨h0, h1, h2⟩ := natOf_eq hn
                  rw [he] at hrx; rw [hi] at hri
                  obtain ⟨l, off', c', hl, hnc, hcc, hex, hop, haddr, e⟩ := hrx.slice_inv
                  have := hri.int_inv
                  have hoff : off' = l.base + a.off := haddr (by omega)
                  refine ⟨.pointer (some ⟨l.blk, l.base + (a.off + m * z), none⟩), .ptr hl, fun w => ?_⟩
                  simp [execOp, ho, e, this, Instr.indexAt, run_underlying hu, asIntOf, h0, h1, run_sizeOf' hs, Addr.add_none, hoff, h2, Nat.add_assoc]
              | _ => simp [he, hi] at hv
          | _ => simp [he] at hv
      | array len e =>
        simp only [cond_true]
        cases hs : szOf P e with
        | none => exact RunOk.no _ _
        | some z =>
          intro ι g ρ v hv hr
          have hrx := hr x (by simp [ho, Op.operands]) hx.1
          have hri := hr i (by simp [ho, Op.operands]) hx.2
          simp only [] at hv
          cases he : ev g x with
          | pointer a =>
            cases a with
            | none => simp [he] at hv
            | some a =>
              cases hi : ev g i with
              | int k j =>
                simp only [he, hi] at hv
                cases hn : natOf j len with
                | none => simp [hn] at hv
                | some m =>
                  simp only [hn, Option.some.injEq] at hv; subst hv
                  obtain ⟨h0, h1, h2⟩ := natOf_eq hn
                  rw [he] at hrx; rw [hi] at hri
                  obtain ⟨l, hl, e⟩ := hrx.ptr_inv
                  have := hri.int_inv
                  refine ⟨.pointer (some ⟨l.blk, l.base + (a.off + m * z), none⟩), .ptr hl, fun w => ?_⟩
                  simp [execOp, ho, e, this, Instr.indexAt, run_underlying hu, asIntOf, Instr.sureAddr, h0, h1, run_sizeOf' hs, Addr.add_none, h2, Nat.add_assoc]
              | _ => simp [he, hi] at hv
          | _ => simp [he] at hv
      | _ => exact RunOk.no _ _

theorem ok_index {t : TypeId} {x i : Operand} (ho : o.op = .index t x i) : RunOk P o (cr P (.index t x i)) := by
  simp only [cr]
  cases hx : opdOk x && opdOk i with
  | false => exact RunOk.no _ _
  | true =>
    simp only [Bool.and_eq_true] at hx
    cases hu : P.underlying t with
    | none => exact RunOk.no _ _
    | some d =>
      cases d with
      | string =>
        intro ι g ρ v hv hr
        have hrx := hr x (by simp [ho, Op.operands]) hx.1
        have hri := hr i (by simp [ho, Op.operands]) hx.2
        simp only [] at hv
        cases he : ev g x with
        | string b =>
          cases hi : ev g i with
          | int k j =>
            simp only [he, hi] at hv
            cases hn : natOf j b.size with
            | none => simp [hn] at hv
            | some m =>
              simp only [hn] at hv
              cases hc : b.data.toList[m]? with
              | none => simp [hc] at hv
              | some c =>
                simp only [hc, Option.some.injEq] at hv; subst hv
                obtain ⟨h0, h1, h2⟩ := natOf_eq hn
                rw [he] at hrx; rw [hi] at hri
                have e1 := hrx.string_inv; have e2 := hri.int_inv
                refine ⟨_, .int _ _, fun w => ?_⟩
                have hg : b[j.toNat]? = some c := by
                  rw [h2]
                  have hm : m < b.size := by omega
                  have : b.data.toList[m]? = some c := hc
                  rw [getElem?_pos b m hm]
                  rw [List.getElem?_eq_getElem (by exact hm)] at this
                  exact this
                simp [execOp, ho, e1, e2, Instr.index, run_underlying hu, asIntOf, h0, hg]
          | _ => simp [he, hi] at hv
        | _ => simp [he] at hv
      | array len e =>
        simp only [cond_true]
        cases hd : P.underlying e with
        | none => exact RunOk.no _ _
        | some d =>
          cases hs : szOf P e with
          | none => exact RunOk.no _ _
          | some z =>
            intro ι g ρ v hv hr
            have hrx := hr x (by simp [ho, Op.operands]) hx.1
            have hri := hr i (by simp [ho, Op.operands]) hx.2
            simp only [] at hv
            cases he : ev g x with
            | agg cs =>
              cases hi : ev g i with
              | int k j =>
                simp only [he, hi] at hv
                cases hn : natOf j len with
                | none => simp [hn] at hv
                | some m =>
                  simp only [hn] at hv
                  obtain ⟨h0, h1, h2⟩ := natOf_eq hn
                  rw [he] at hrx; rw [hi] at hri
                  obtain ⟨cs', e1, hl⟩ := hrx.agg_inv
                  have e2 := hri.int_inv
                  obtain ⟨v', r1, r2⟩ := part_run hd hs hv hl
                  refine ⟨v', r1, fun w => ?_⟩
                  simp [execOp, ho, e1, e2, Instr.index, run_underlying hu, asIntOf, h0, h1, run_sizeOf' hs, h2, r2 w]
              | _ => simp [he, hi] at hv
            | _ => simp [he] at hv
      | _ => exact RunOk.no _ _

end Go.AM
