/- Operations that look at no memory. -/
import Derived.Test.YteoodndfkdfnaaaGreatDoorAmOp0
namespace Go.AM
variable {P : Program} {o : Oper}

theorem ok_move {x : Operand} (ho : o.op = .move x) : RunOk P o (cr P (.move x)) := by
  simp only [cr]
  cases hx : opdOk x with
  | false => exact RunOk.no _ _
  | true =>
    intro ι g ρ v hv hr
    simp at hv; subst hv
    exact ⟨ρ x, hr x (by simp [ho, Op.operands]) hx, fun w => by simp [execOp, ho]⟩
theorem ok_assign {x : Operand} (ho : o.op = .assign x) : RunOk P o (cr P (.assign x)) := by
  simp only [cr]
  cases hx : opdOk x with
  | false => exact RunOk.no _ _
  | true =>
    intro ι g ρ v hv hr
    simp at hv; subst hv
    exact ⟨ρ x, hr x (by simp [ho, Op.operands]) hx, fun w => by simp [execOp, ho]⟩

theorem VRel.bool_inv {ι : Inj} {b : Bool} {v : Value} (h : VRel ι (.bool b) v) : v = .bool b := by cases h; rfl
theorem VRel.int_inv {ι : Inj} {k : IntKind} {n : Int} {v : Value} (h : VRel ι (.int k n) v) : v = .int k n := by cases h; rfl
theorem VRel.string_inv {ι : Inj} {s : ByteArray} {v : Value} (h : VRel ι (.string s) v) : v = .string s := by cases h; rfl

theorem ok_pick {c a b : Operand} (ho : o.op = .pick c a b) : RunOk P o (cr P (.pick c a b)) := by
  simp only [cr]
  cases hc : opdOk c && opdOk a && opdOk b with
  | false => exact RunOk.no _ _
  | true =>
    simp only [Bool.and_eq_true] at hc
    intro ι g ρ v hv hr
    have hrc := hr c (by simp [ho, Op.operands]) hc.1.1
    have hra := hr a (by simp [ho, Op.operands]) hc.1.2
    have hrb := hr b (by simp [ho, Op.operands]) hc.2
    simp only [] at hv
    cases hec : ev g c <;> simp only [hec] at hv <;> try (cases hv; done)
    rename_i t
    rw [hec] at hrc
    have := hrc.bool_inv
    cases t with
    | true => simp at hv; subst hv; exact ⟨ρ a, hra, fun w => by simp [execOp, ho, this, asBool]⟩
    | false => simp at hv; subst hv; exact ⟨ρ b, hrb, fun w => by simp [execOp, ho, this, asBool]⟩

theorem ok_nilCheck {x : Operand} (ho : o.op = .nilCheck x) : RunOk P o (cr P (.nilCheck x)) := by
  simp only [cr]
  cases hx : opdOk x with
  | false => exact RunOk.no _ _
  | true =>
    intro ι g ρ v hv hr
    have hrx := hr x (by simp [ho, Op.operands]) hx
    simp only [] at hv
    cases he : ev g x with
    | pointer a =>
      cases a with
      | none => simp [he] at hv
      | some a =>
        simp only [he, Option.some.injEq] at hv; subst hv
        rw [he] at hrx
        refine ⟨ρ x, hrx, fun w => ?_⟩
        generalize hc : ρ x = c at hrx
        cases hrx with
        | ptr hl => simp [execOp, ho, hc]
    | func f a b =>
      cases f with
      | func f =>
        simp only [he, Option.some.injEq] at hv; subst hv
        rw [he] at hrx
        refine ⟨ρ x, hrx, fun w => ?_⟩
        generalize hc : ρ x = c at hrx
        cases hrx with
        | func h1 h2 => simp [execOp, ho, hc]
      | _ => simp [he] at hv
    | _ => simp [he] at hv

theorem ok_extract {t : Operand} {i : Nat} (ho : o.op = .extract t i) : RunOk P o (cr P (.extract t i)) := by
  simp only [cr]
  cases hx : opdOk t with
  | false => exact RunOk.no _ _
  | true =>
    intro ι g ρ v hv hr
    have hrx := hr t (by simp [ho, Op.operands]) hx
    simp only [] at hv
    cases he : ev g t <;> simp only [he] at hv <;> try (cases hv; done)
    rename_i vs
    rw [he] at hrx
    generalize hc : ρ t = c at hrx
    cases hrx with
    | tuple h =>
      rename_i vs'
      obtain ⟨v', h1, h2⟩ := h.get hv
      exact ⟨v', h2, fun w => by
        have : vs'[i]? = some v' := by simpa using h1
        simp [execOp, ho, hc, Instr.extract, this]⟩

theorem wrapF_eq (k : IntKind) (n : Int) : wrapF k n = k.wrap n := by
  cases k <;> simp only [wrapF]
  · unfold inR
    by_cases h : (-9223372036854775808 ≤ n ∧ n ≤ 9223372036854775807)
    · simp only [h.1, h.2, decide_true, Bool.and_self, cond_true]
      simp only [IntKind.wrap, IntKind.bits, IntKind.signed, Bool.true_and, Int.reducePow, Nat.reduceSub]; split <;> rename_i hh <;> (simp at hh; omega)
    · have : (decide (-9223372036854775808 ≤ n) && decide (n ≤ 9223372036854775807)) = false := by
        simp only [Bool.and_eq_false_iff, decide_eq_false_iff_not]; omega
      rw [this]; rfl
  · unfold inR
    by_cases h : (0 ≤ n ∧ n ≤ 255)
    · simp only [h.1, h.2, decide_true, Bool.and_self, cond_true]
      simp only [IntKind.wrap, IntKind.bits, IntKind.signed, Bool.false_and, Bool.false_eq_true, if_false, Int.reducePow]; omega
    · have : (decide (0 ≤ n) && decide (n ≤ 255)) = false := by
        simp only [Bool.and_eq_false_iff, decide_eq_false_iff_not]; omega
      rw [this]; rfl
  · unfold inR
    by_cases h : (0 ≤ n ∧ n ≤ 4294967295)
    · simp only [h.1, h.2, decide_true, Bool.and_self, cond_true]
      simp only [IntKind.wrap, IntKind.bits, IntKind.signed, Bool.false_and, Bool.false_eq_true, if_false, Int.reducePow]; omega
    · have : (decide (0 ≤ n) && decide (n ≤ 4294967295)) = false := by
        simp only [Bool.and_eq_false_iff, decide_eq_false_iff_not]; omega
      rw [this]; rfl

theorem kindEq_eq {a b : IntKind} (h : kindEq a b = true) : a = b := by simpa [kindEq] using h

theorem bytesEq_eq : ∀ (a b : List UInt8), bytesEq a b = (a == b)
  | [], [] => rfl
  | [], _ :: _ => rfl
  | _ :: _, [] => rfl
  | a :: x, b :: y => by
    simp only [bytesEq, List.cons_beq_cons]
    by_cases h : a = b
    · subst h; simp [bytesEq_eq x y]
    · have : Nat.beq a.toNat b.toNat = false := by
        cases hh : Nat.beq a.toNat b.toNat with
        | false => rfl
        | true => exact absurd (UInt8.toNat_inj.1 (Nat.eq_of_beq_eq_true hh)) h
      rw [this]; simp [h]
theorem bytesLt_eq : ∀ (a b : List UInt8), bytesLt a b = Op.bytesLess a b
  | [], [] => rfl
  | [], _ :: _ => rfl
  | _ :: _, [] => rfl
  | a :: x, b :: y => by
    simp only [bytesLt, Op.bytesLess, bytesLt_eq x y]
    by_cases h : a.toNat < b.toNat
    · have h1 : Nat.blt a.toNat b.toNat = true := by simp [Nat.blt_eq, h]
      have h2 : a < b := UInt8.lt_iff_toNat_lt.2 h
      rw [h1]; simp [h2]
    · have h1 : Nat.blt a.toNat b.toNat = false := by
        cases hh : Nat.blt a.toNat b.toNat with
        | false => rfl
        | true => exact absurd (by simpa [Nat.blt_eq] using hh) h
      have h2 : ¬ a < b := fun x => h (UInt8.lt_iff_toNat_lt.1 x)
      rw [h1]; simp only [cond_false, h2, decide_false, Bool.false_or]
      by_cases e : a = b
      · subst e; simp
      · have : Nat.beq a.toNat b.toNat = false := by
          cases hh : Nat.beq a.toNat b.toNat with
          | false => rfl
          | true => exact absurd (UInt8.toNat_inj.1 (Nat.eq_of_beq_eq_true hh)) e
        rw [this]; simp [e]

end Go.AM
