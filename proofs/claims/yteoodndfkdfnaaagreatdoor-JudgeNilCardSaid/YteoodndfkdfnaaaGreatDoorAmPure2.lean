/- Operations that look at no memory, 2: numbers, strings, '=='. -/
import Derived.Test.YteoodndfkdfnaaaGreatDoorAmPure
import Derived.Laws.Strings
namespace Go.AM
variable {P : Program} {o : Oper}

theorem toList_data (b : ByteArray) : b.toList = b.data.toList := ByteArray.toList_eq b

theorem arith_run {op : BinOp} {k : IntKind} {a b : Int} {v : Value} (h : arith op k a b = some v) (hs : isShift op = false) (t : TypeId) (w : World) :
    (binOp op t (.int k a) (.int k b)).run P w = .ok v w := by
  have hb : ∀ r : BitVec k.bits, ((r.toNat : Int)) = r.toNat := fun _ => rfl
  cases op <;> simp only [arith, isShift] at h hs <;> (try (cases hs; done)) <;> (try (cases h; done))
  case add => simp only [Option.some.injEq] at h; subst h; simp [binOp_add, Op.intArith, wrapF_eq]
  case sub => simp only [Option.some.injEq] at h; subst h; simp [binOp_sub, Op.intArith, wrapF_eq]
  case mul => simp only [Option.some.injEq] at h; subst h; simp [binOp_mul, Op.intArith, wrapF_eq]
  case quo =>
    by_cases h0 : b = 0
    · simp [h0] at h
    · simp only [h0, decide_false, cond_false, Option.some.injEq] at h; subst h; simp [binOp_quo, Op.intDiv, h0, wrapF_eq]
  case rem =>
    by_cases h0 : b = 0
    · simp [h0] at h
    · simp only [h0, decide_false, cond_false, Option.some.injEq] at h; subst h; simp [binOp_rem, Op.intDiv, h0]
  case and => simp only [Option.some.injEq] at h; subst h; rw [binOp_and]; simp [Op.intBits]
  case or => simp only [Option.some.injEq] at h; subst h; rw [binOp_or]; simp [Op.intBits]
  case xor => simp only [Option.some.injEq] at h; subst h; rw [binOp_xor]; simp [Op.intBits]
  case andNot => simp only [Option.some.injEq] at h; subst h; rw [binOp_andNot]; simp [Op.intBits]
  case eql => simp only [Option.some.injEq] at h; subst h; simp [binOp_eql]; rfl
  case neq => simp only [Option.some.injEq] at h; subst h; simp [binOp_neq]; rfl
  case lss => simp only [Option.some.injEq] at h; subst h; simp [binOp_lss]
  case leq => simp only [Option.some.injEq] at h; subst h; simp [binOp_leq]
  case gtr => simp only [Option.some.injEq] at h; subst h; simp [binOp_gtr]
  case geq => simp only [Option.some.injEq] at h; subst h; simp [binOp_geq]

theorem shift_run {op : BinOp} {k k' : IntKind} {a b : Int} {v : Value} (h : shiftV op k a b = some v) (t : TypeId) (w : World) :
    (binOp op t (.int k a) (.int k' b)).run P w = .ok v w := by
  cases op <;> simp only [shiftV] at h <;> (try (cases h; done))
  case shl =>
    by_cases h0 : b < 0
    · simp [h0] at h
    · simp only [h0, decide_false, cond_false, Option.some.injEq] at h; subst h; simp [binOp_shl, Op.shift, h0]
  case shr =>
    by_cases h0 : b < 0
    · simp [h0] at h
    · simp only [h0, decide_false, cond_false, Option.some.injEq] at h; subst h; simp [binOp_shr, Op.shift, h0]

theorem str_run {op : BinOp} {a b : ByteArray} {v : Value} (h : strOp op a.data.toList b.data.toList = some v) (t : TypeId) (w : World) :
    (binOp op t (.string a) (.string b)).run P w = .ok v w := by
  have hx : binOp op t (.string a) (.string b) = Op.stringOp op a b := by cases op <;> rfl
  rw [hx]
  cases op <;> simp only [strOp] at h <;> (try (cases h; done))
  case add =>
    cases hl : Nat.ble (a.data.toList.length + b.data.toList.length) 9223372036854775807 with
    | false => rw [hl] at h; cases h
    | true =>
      rw [hl] at h; simp only [cond_true, Option.some.injEq] at h; subst h
      have hle := Nat.le_of_ble_eq_true hl
      have h1 : ¬ (((a.size + b.size : Nat) : Int) > IntKind.i64.max) := by
        have e1 : a.size = a.data.toList.length := rfl
        have e2 : b.size = b.data.toList.length := rfl
        rw [IntKind.max_i64, e1, e2]; omega
      simp only [Op.stringOp, h1, if_false, Sem.run_pure]
      have : a ++ b = ⟨(a.data.toList ++ b.data.toList).toArray⟩ := by
        apply ByteArray.ext
        simp [ByteArray.data_append]
      rw [this]
  all_goals (simp only [Option.some.injEq] at h; subst h; simp [Op.stringOp, toList_data, bytesEq_eq, bytesLt_eq])


theorem VRel.nilptr_inv {ι : Inj} {v : Value} (h : VRel ι (.pointer none) v) : v = .pointer none := by cases h; rfl
theorem VRel.ptr_inv {ι : Inj} {a : Addr} {v : Value} (h : VRel ι (.pointer (some a)) v) : ∃ l, ι a.block = some l ∧ v = .pointer (some ⟨l.blk, l.base + a.off, none⟩) := by
  cases h with | ptr h => exact ⟨_, h, rfl⟩
theorem VRel.nilmap_inv {ι : Inj} {v : Value} (h : VRel ι (.map none) v) : v = .map none := by cases h; rfl
theorem VRel.map_inv {ι : Inj} {r : Nat} {v : Value} (h : VRel ι (.map (some r)) v) : ∃ l, ι r = some l ∧ v = .map (some l.blk) := by
  cases h with | map h => exact ⟨_, h, rfl⟩
theorem VRel.nilFunc_inv {ι : Inj} {v : Value} (h : VRel ι .nilFunc v) : v = .nilFunc := by cases h; rfl
theorem VRel.nilIface_inv {ι : Inj} {v : Value} (h : VRel ι .nilIface v) : v = .nilIface := by cases h; rfl
theorem VRel.iface_inv {ι : Inj} {t : TypeId} {u v : Value} (h : VRel ι (.iface t u) v) : ∃ u', v = .iface t u' ∧ VRel ι u u' := by
  cases h with | iface h => exact ⟨_, rfl, h⟩
theorem VRel.func_inv {ι : Inj} {f : FuncId} {a b : Array Value} {v : Value} (h : VRel ι (.func (.func f) a b) v) :
    ∃ a' b', v = .func (.func f) a' b' ∧ VRelL ι a.toList a'.toList ∧ VRelL ι b.toList b'.toList := by
  cases h with | func h h' => exact ⟨_, _, rfl, h, h'⟩
theorem VRel.agg_inv {ι : Inj} {a : Array Value} {v : Value} (h : VRel ι (.agg a) v) : ∃ a', v = .agg a' ∧ VRelL ι a.toList a'.toList := by
  cases h with | agg h => exact ⟨_, rfl, h⟩
theorem VRel.tuple_inv {ι : Inj} {a : Array Value} {v : Value} (h : VRel ι (.tuple a) v) : ∃ a', v = .tuple a' ∧ VRelL ι a.toList a'.toList := by
  cases h with | tuple h => exact ⟨_, rfl, h⟩
theorem VRel.nilslice_inv {ι : Inj} {n c : Nat} {v : Value} (h : VRel ι (.slice none n c) v) : v = .slice none n c := by cases h; rfl
theorem VRel.slice_inv {ι : Inj} {a : Addr} {n c : Nat} {v : Value} (h : VRel ι (.slice (some a) n c) v) :
    ∃ l off' c', ι a.block = some l ∧ n ≤ c ∧ c ≤ c' ∧ (a.spot = none → c' = c) ∧ (∀ z, a.spot = some z → c' ≠ 0 → l.base + a.off + c' * z ≤ l.top) ∧ (c' ≠ 0 → off' = l.base + a.off) ∧
      v = .slice (some ⟨l.blk, off', none⟩) n c' := by
  cases h with | slice h1 h2 h3 h4 h5 h6 => exact ⟨_, _, _, h1, h2, h3, h4, h5, h6, rfl⟩
theorem VRel.isFunc {ι : Inj} {f : Fn} {a b : Array Value} {v : Value} (h : VRel ι (.func f a b) v) : ∃ f' a' b', v = .func f' a' b' := by
  cases h <;> exact ⟨_, _, _, rfl⟩

theorem eqNil_run {d : TypeDesc} {cst : Bool} {x y x' y' : Value} {b : Bool} {ι : Inj} (h : eqNil d cst x y = some b) (hx : VRel ι x x') (hy : VRel ι y y')
    {t : TypeId} (ht : P.underlying t = some d) (w : World) : (Op.equal t x' y').run P w = .ok b w := by
  have key : ∀ n, (Op.equalIn (n + 1) t x' y').run P w = .ok b w := by
   intro n
   unfold eqNil at h
   simp only [Op.equalIn, Sem.run_bind, run_underlying ht, Result.andThen_ok]
   split at h
   · have := hx.bool_inv; have := hy.bool_inv; subst_vars; cases h; rfl
   · have := hx.nilptr_inv; subst this
     simp only [Option.some.injEq] at h; subst h
     rename_i b
     cases b with
     | none => have := hy.nilptr_inv; subst this; rfl
     | some a => obtain ⟨l, _, e⟩ := hy.ptr_inv; subst e; rfl
   · obtain ⟨l, _, e⟩ := hx.ptr_inv; subst e; have := hy.nilptr_inv; subst this; cases h; rfl
   · have := hx.nilmap_inv; subst this
     simp only [Option.some.injEq] at h; subst h
     rename_i b
     cases b with
     | none => have := hy.nilmap_inv; subst this; rfl
     | some a => obtain ⟨l, _, e⟩ := hy.map_inv; subst e; rfl
   · obtain ⟨l, _, e⟩ := hx.map_inv; subst e; have := hy.nilmap_inv; subst this; cases h; rfl
   · have := hx.nilslice_inv; subst this
     simp only [Option.some.injEq] at h; subst h
     rename_i b _ _
     cases b with
     | none => have := hy.nilslice_inv; subst this; rfl
     | some a => obtain ⟨_, _, _, _, _, _, _, _, _, e⟩ := hy.slice_inv; subst e; rfl
   · obtain ⟨_, _, _, _, _, _, _, _, _, e⟩ := hx.slice_inv; subst e; have := hy.nilslice_inv; subst this; cases h; rfl
   · have := hx.nilFunc_inv; have := hy.nilFunc_inv; subst_vars; cases h; rfl
   · have := hx.nilFunc_inv; obtain ⟨_, _, _, e⟩ := hy.isFunc; subst_vars; cases h; rfl
   · have := hy.nilFunc_inv; obtain ⟨_, _, _, e⟩ := hx.isFunc; subst_vars; cases h; rfl
   · cases cst with
     | false => simp at h
     | true => have := hx.nilIface_inv; have := hy.nilIface_inv; subst_vars; simp at h; subst h; rfl
   · have := hx.nilIface_inv; obtain ⟨_, e, _⟩ := hy.iface_inv; subst_vars; cases h; rfl
   · have := hy.nilIface_inv; obtain ⟨_, e, _⟩ := hx.iface_inv; subst_vars; cases h; rfl
   · cases h
  exact key 9999

theorem eqGuard_eqNil {d : TypeDesc} {x y : Operand} {op : BinOp} {u v u' v' : Value} {b : Bool} {ι : Inj} (h : eqNil d (isConst x || isConst y) u v = some b) (hx : VRel ι u u') (hy : VRel ι v v')
    (t : TypeId) : eqGuard op t x y u' v' = pure () := by
  unfold eqNil at h
  split at h
  · have := hx.bool_inv; subst this; exact eqGuard_at_bool _ _ _ _ _ _
  · have := hx.nilptr_inv; subst this; simp [eqGuard_at_pointer]
  · obtain ⟨l, _, e⟩ := hx.ptr_inv; subst e; simp [eqGuard_at_pointer]
  · have := hx.nilmap_inv; subst this; simp [eqGuard_at_map]
  · obtain ⟨l, _, e⟩ := hx.map_inv; subst e; simp [eqGuard_at_map]
  · have := hx.nilslice_inv; subst this; simp [eqGuard_at_slice]
  · obtain ⟨_, _, _, _, _, _, _, _, _, e⟩ := hx.slice_inv; subst e; simp [eqGuard_at_slice]
  · have := hx.nilFunc_inv; subst this; simp [eqGuard_at_nilFunc]
  · have := hx.nilFunc_inv; subst this; simp [eqGuard_at_nilFunc]
  · obtain ⟨_, _, _, e⟩ := hx.isFunc; subst e; simp [eqGuard_at_func]
  · have := hx.nilIface_inv; have := hy.nilIface_inv; subst_vars
    cases x with
    | const c => exact eqGuard_nil_constL _ _ _ _
    | _ => cases y with
      | const c => exact eqGuard_nil_constR _ _ _ _
      | _ => simp [isConst] at h
  · have := hx.nilIface_inv; obtain ⟨_, e, _⟩ := hy.iface_inv; subst_vars; exact eqGuard_nil_iface _ _ _ _ _ _
  · obtain ⟨_, e, _⟩ := hx.iface_inv; subst e; exact eqGuard_at_iface _ _ _ _ _ _ _
  · cases h

theorem binOp_eqNil {d : TypeDesc} {cst : Bool} {op : BinOp} {u v u' v' : Value} {b : Bool} {ι : Inj} (h : eqNil d cst u v = some b) (hx : VRel ι u u') (hy : VRel ι v v')
    {t : TypeId} (ht : P.underlying t = some d) (w : World) :
    (binOp .eql t u' v').run P w = .ok (.bool b) w ∧ (binOp .neq t u' v').run P w = .ok (.bool (!b)) w := by
  have he := eqNil_run h hx hy ht w
  have hsh : ∀ op', (op' = .eql ∨ op' = .neq) → binOp op' t u' v' = (match op' with | .eql => (do pure (.bool (← Op.equal t u' v'))) | _ => (do pure (.bool (!(← Op.equal t u' v'))))) := by
    intro op' ho
    unfold eqNil at h
    rcases ho with rfl | rfl <;> split at h <;> first
      | (cases h; done)
      | (cases hx <;> cases hy <;> rfl)
  rw [hsh .eql (.inl rfl), hsh .neq (.inr rfl)]
  simp [he]

theorem ok_binOp {op : BinOp} {t yt : TypeId} {x y : Operand} (ho : o.op = .binOp op t x y yt) : RunOk P o (cr P (.binOp op t x y yt)) := by
  simp only [cr]
  cases hx : opdOk x && opdOk y with
  | false => exact RunOk.no _ _
  | true =>
    simp only [Bool.and_eq_true] at hx
    cases hu : P.underlying t with
    | none => exact RunOk.no _ _
    | some d =>
      intro ι g ρ v hv hr
      have hrx := hr x (by simp [ho, Op.operands]) hx.1
      have hry := hr y (by simp [ho, Op.operands]) hx.2
      simp only [] at hv
      have main : ∃ v', VRel ι v v' ∧ ∀ w, (do eqGuard op t x y (ρ x) (ρ y); binOp op t (ρ x) (ρ y)).run P w = .ok v' w := by
        unfold bin at hv
        split at hv
        · rename_i k a k' b hex hey
          rw [hex] at hrx; rw [hey] at hry
          have e1 := hrx.int_inv; have e2 := hry.int_inv
          rw [e1, e2]
          cases hs : isShift op with
          | true =>
            simp only [hs, cond_true] at hv
            have hpl : plain0 v = true := by cases op <;> simp only [shiftV] at hv <;> (try (cases hv; done)) <;> (by_cases h0 : b < 0 <;> simp [h0] at hv; subst hv; rfl)
            exact ⟨v, .plain0 hpl, fun w => by rw [eqGuard_at_int]; simp [shift_run hv t w]⟩
          | false =>
            simp only [hs, cond_false] at hv
            cases hk : kindEq k k' with
            | false => simp [hk] at hv
            | true =>
              have := kindEq_eq hk; subst this
              simp only [hk, cond_true] at hv
              have hpl : plain0 v = true := by
                cases op <;> simp only [arith] at hv <;> (try (cases hv; done)) <;> (try (simp only [Option.some.injEq] at hv; subst hv; rfl)) <;>
                  (by_cases h0 : b = 0 <;> simp [h0] at hv; subst hv; rfl)
              exact ⟨v, .plain0 hpl, fun w => by rw [eqGuard_at_int]; simp [arith_run hv hs t w]⟩
        · rename_i a b hex hey
          rw [hex] at hrx; rw [hey] at hry
          have e1 := hrx.string_inv; have e2 := hry.string_inv
          rw [e1, e2]
          have hpl : plain0 v = true := by
            cases op <;> simp only [strOp] at hv <;> (try (cases hv; done)) <;> (try (simp only [Option.some.injEq] at hv; subst hv; rfl))
            cases hb : Nat.ble (a.data.toList.length + b.data.toList.length) 9223372036854775807 <;> rw [hb] at hv <;> simp at hv
            subst hv; rfl
          exact ⟨v, .plain0 hpl, fun w => by rw [eqGuard_at_string]; simp [str_run hv t w]⟩
        · split at hv
          · cases he : eqNil d (isConst x || isConst y) (ev g x) (ev g y) with
            | none => simp [eqV, he, negIf] at hv
            | some b =>
              simp only [eqV, he, negIf, cond_false, Option.some.injEq] at hv; subst hv
              exact ⟨.bool b, .bool b, fun w => by rw [eqGuard_eqNil he hrx hry]; simp [(binOp_eqNil (op := .eql) he hrx hry hu w).1]⟩
          · cases he : eqNil d (isConst x || isConst y) (ev g x) (ev g y) with
            | none => simp [eqV, he, negIf] at hv
            | some b =>
              simp only [eqV, he, negIf, cond_true, Option.some.injEq] at hv; subst hv
              exact ⟨.bool (!b), .bool (!b), fun w => by rw [eqGuard_eqNil he hrx hry]; simp [(binOp_eqNil (op := .eql) he hrx hry hu w).2]⟩
          · cases hv
      obtain ⟨v', h1, h2⟩ := main
      exact ⟨v', h1, fun w => by simp only [execOp, ho]; rw [Sem.run_bind, h2 w]; rfl⟩

end Go.AM
