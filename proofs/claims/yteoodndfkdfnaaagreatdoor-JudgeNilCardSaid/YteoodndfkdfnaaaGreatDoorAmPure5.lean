/- Operations that look at no memory, 5: builtins on values. -/
import Derived.Test.YteoodndfkdfnaaaGreatDoorAmPure4
namespace Go.AM
variable {P : Program} {o : Oper}

theorem call_builtin {c : Call} {b : Builtin} (ho : o.op = .call c) (hc : c.callee = .builtin b) (ρ : Operand → Value) :
    execOp ρ o = builtin b c.argTypes o.type (c.args.map fun | .const _ => true | _ => false) (c.args.map ρ) := by
  simp only [execOp, ho, resolve, hc]; rfl

theorem args_of {c : Call} {l : List Operand} (h : c.args.toList = l) : c.args = l.toArray := by rw [← h]

theorem isEmpty_cond {α : Type} {b : Bool} {x y z : α} : (bif b then x else y) = if b = true then x else y := by cases b <;> rfl

theorem ok_lenPu {c : Call} {t : TypeId} {d : TypeDesc} {x : Operand} (ho : o.op = .call c) (hc : c.callee = .builtin .len) (ht : c.argTypes[0]? = some t) (ha : c.args.toList = [x])
    (hu : P.underlying t = some d) (hx : opdOk x = true) (hd : ∀ k e, d ≠ .map k e) : RunOk P o (lenR d x) := by
  have hm : ∀ ι g ρ, ORho ι g ρ o.op.operands.toList → VRel ι (ev g x) (ρ x) := fun ι g ρ hr => hr x (by simp [ho, Op.operands, Call.operands, hc, args_of ha]) hx
  have hrun : ∀ ρ w v, (Builtin.len_ c.argTypes o.type #[ρ x]).run P w = .ok v w → (execOp ρ o).run P w = .ok (.value v) w := by
    intro ρ w v h
    rw [call_builtin ho hc, args_of ha]
    simp [builtin, h]
  cases d with
  | string =>
    intro ι g ρ v hv hr
    have hrx := hm ι g ρ hr
    simp only [] at hv
    cases he : ev g x <;> simp only [he] at hv <;> try (cases hv; done)
    rw [he] at hrx; have e := hrx.string_inv
    simp only [Option.some.injEq] at hv; subst hv
    exact ⟨_, .int _ _, fun w => hrun ρ w _ (by simp [Builtin.len_, ht, run_underlying hu, e, goInt])⟩
  | array n e =>
    intro ι g ρ v hv hr
    simp only [] at hv
    cases hn : notTup (ev g x) with
    | false => rw [hn] at hv; cases hv
    | true =>
      rw [hn] at hv; simp only [cond_true, Option.some.injEq] at hv; subst hv
      exact ⟨_, .int _ _, fun w => hrun ρ w _ (by simp [Builtin.len_, ht, run_underlying hu, goInt])⟩
  | slice e =>
    intro ι g ρ v hv hr
    have hrx := hm ι g ρ hr
    simp only [] at hv
    cases he : ev g x <;> simp only [he] at hv <;> try (cases hv; done)
    rename_i a n c'
    simp only [Option.some.injEq] at hv; subst hv
    rw [he] at hrx
    refine ⟨_, .int _ _, fun w => hrun ρ w _ ?_⟩
    cases a with
    | none => have e := hrx.nilslice_inv; simp [Builtin.len_, ht, run_underlying hu, e, goInt]
    | some a => obtain ⟨_, _, _, _, _, _, _, _, _, e⟩ := hrx.slice_inv; simp [Builtin.len_, ht, run_underlying hu, e, goInt]
  | map k e => exact absurd rfl (hd _ _)
  | _ => exact RunOk.no _ _

theorem ok_cap {c : Call} (ho : o.op = .call c) (hc : c.callee = .builtin .cap) : RunOk P o (builtinR P .cap c) := by
  simp only [builtinR]
  cases ht : c.argTypes[0]? with
  | none => exact RunOk.no _ _
  | some t =>
    match ha : c.args.toList with
    | [] => exact RunOk.no _ _
    | _ :: _ :: _ => exact RunOk.no _ _
    | [x] =>
      simp only []
      cases hu : P.underlying t with
      | none => exact RunOk.no _ _
      | some d =>
        cases d with
        | slice e =>
          simp only []
          cases hx : opdOk x with
          | false => exact RunOk.no _ _
          | true =>
            intro ι g ρ v hv hr
            have hrx : VRel ι (ev g x) (ρ x) := hr x (by simp [ho, Op.operands, Call.operands, hc, args_of ha]) hx
            have hrun : ∀ w v, (Builtin.cap_ c.argTypes o.type #[ρ x]).run P w = .ok v w → (execOp ρ o).run P w = .ok (.value v) w := by
              intro w v h
              rw [call_builtin ho hc, args_of ha]
              simp [builtin, h]
            simp only [] at hv
            cases he : ev g x <;> simp only [he] at hv <;> try (cases hv; done)
            rename_i a n c'
            rw [he] at hrx
            cases a with
            | none =>
              simp only [Option.some.injEq] at hv; subst hv
              have e := hrx.nilslice_inv
              exact ⟨_, .int _ _, fun w => hrun w _ (by simp [Builtin.cap_, ht, run_underlying hu, e, goInt])⟩
            | some a =>
              simp only [] at hv
              cases hs : a.spot with
              | some z => simp [hs] at hv
              | none =>
                simp only [hs, Option.some.injEq] at hv; subst hv
                obtain ⟨_, _, _, _, _, _, hex, _, _, e⟩ := hrx.slice_inv
                have := hex hs; subst this
                exact ⟨_, .int _ _, fun w => hrun w _ (by simp [Builtin.cap_, ht, run_underlying hu, e, goInt])⟩
        | _ => exact RunOk.no _ _

theorem minL_run {ι : Inj} (gt : Bool) {k : IntKind} (f : Value → Value → Sem Value)
    (hf : ∀ k' x y w, (f (.int k x) (.int k' y)).run P w = .ok (.int k (minI gt x y)) w) : ∀ {l l' : List Value} {n m : Int}, minL gt n l = some m → VRelL ι l l' →
    ∀ w, (l'.foldlM f (.int k n)).run P w = .ok (.int k m) w
  | [], _, n, m, h, .nil, w => by simp only [minL, Option.some.injEq] at h; subst h; simp
  | v :: l, _, n, m, h, .cons hv hl, w => by
    cases v <;> simp only [minL] at h <;> try (cases h; done)
    have := hv.int_inv; subst this
    simp only [List.foldlM_cons, Sem.run_bind, hf, Result.andThen_ok]
    exact minL_run gt f hf h hl w

theorem ok_minmax {c : Call} (gt : Bool) {b : Builtin} (hb : b = if gt then .max else .min) (ho : o.op = .call c) (hc : c.callee = .builtin b) : RunOk P o (builtinR P b c) := by
  have key : ∀ x xs, c.args.toList = x :: xs → opdsOk (x :: xs) = true → PuOk P o (fun g => match ev g x with
      | .int k n => match minL gt n (evs g xs) with | some m => some (.int k m) | none => none
      | _ => none) := by
    intro x xs ha hx ι g ρ v hv hr
    have hrs : VRelL ι (evs g (x :: xs)) ((x :: xs).map ρ) := evs_rel hx (hr.sub (by intro y hy; simp [ho, Op.operands, Call.operands, hc, args_of ha]; simpa using hy))
    simp only [] at hv
    cases hrs with
    | cons h1 h2 =>
    cases he : ev g x <;> simp only [he] at hv <;> try (cases hv; done)
    rename_i k n
    cases hm : minL gt n (evs g xs) with
    | none => simp [hm] at hv
    | some m =>
      simp only [hm, Option.some.injEq] at hv; subst hv
      rw [he] at h1
      have e := h1.int_inv
      refine ⟨_, .int _ _, fun w => ?_⟩
      rw [call_builtin ho hc, args_of ha]
      cases gt with
      | true =>
        have hr' := minL_run (P := P) true (k := k) Builtin.max2 (fun k' a b w => by
          simp [Builtin.max2, minI, isEmpty_cond]) hm h2 w
        subst hb
        simp only [if_true, builtin, Builtin.max_, List.map_toArray, List.map_cons, e, Sem.run_bind, hr', Result.andThen_ok, Sem.run_pure]
      | false =>
        have hr' := minL_run (P := P) false (k := k) Builtin.min2 (fun k' a b w => by
          simp [Builtin.min2, minI, isEmpty_cond]) hm h2 w
        subst hb
        simp only [Bool.false_eq_true, if_false, builtin, Builtin.min_, List.map_toArray, List.map_cons, e, Sem.run_bind, hr', Result.andThen_ok, Sem.run_pure]
  cases gt with
  | true =>
    subst hb
    simp only [if_true, builtinR]
    match ha : c.args.toList with
    | [] => exact RunOk.no _ _
    | x :: xs =>
      simp only []
      cases hx : opdsOk (x :: xs) with
      | false => exact RunOk.no _ _
      | true => exact key x xs ha hx
  | false =>
    subst hb
    simp only [Bool.false_eq_true, if_false, builtinR]
    match ha : c.args.toList with
    | [] => exact RunOk.no _ _
    | x :: xs =>
      simp only []
      cases hx : opdsOk (x :: xs) with
      | false => exact RunOk.no _ _
      | true => exact key x xs ha hx

end Go.AM
