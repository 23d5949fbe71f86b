/- What is asked of an abstract operation. -/
import Derived.Test.YteoodndfkdfnaaaGreatDoorAmHeap
import Derived.Laws.Sem
import Derived.Laws.Entries
import Derived.Laws.Cells
namespace Go.AM

def ORho (ι : Inj) (g : T Value) (ρ : Operand → Value) (xs : List Operand) : Prop := ∀ x ∈ xs, opdOk x = true → VRel ι (ev g x) (ρ x)

def PuOk (P : Program) (o : Oper) (f : T Value → Option Value) : Prop :=
  ∀ ι g ρ v, f g = some v → ORho ι g ρ o.op.operands.toList → ∃ v', VRel ι v v' ∧ ∀ w, (execOp ρ o).run P w = .ok (.value v') w
def RdOk (P : Program) (o : Oper) (f : T Value → S → Option Value) : Prop :=
  ∀ ι s w g ρ v, f g s = some v → SRel P ι s w → ORho ι g ρ o.op.operands.toList → ∃ v', VRel ι v v' ∧ (execOp ρ o).run P w = .ok (.value v') w
def AlOk (P : Program) (o : Oper) (f : T Value → Option (AObj × (Nat → Value))) : Prop :=
  ∀ ι g ρ ob mk, f g = some (ob, mk) → ORho ι g ρ o.op.operands.toList → (∀ p, ¬ Par ob p) ∧
    ∀ w, ∃ top o' w' v', WPush w w' o' ∧ (execOp ρ o).run P w = .ok (.value v') w' ∧
      ∀ ι' b, Ext ι ι' → ι' b = some ⟨w.heap.size, 0, top⟩ → ORel P ι' ⟨w.heap.size, 0, top⟩ ob o' ∧ VRel ι' (mk b) v'

def ValPost (P : Program) (hb : Nat) (ι : Inj) (s : S) (w : World) (ρ : Operand → Value) (o : Oper) (v : Value) (s' : S) : Prop :=
  ∃ ι' w' v', ((execOp ρ o).run P w = .ok (.value v') w' ∨ ((execOp ρ o).run P w = .ok .skip w' ∧ v' = undef)) ∧ VRel ι' v v' ∧ SRel P ι' s' w' ∧ Fm hb ι s w ι' s' w'

def HdPost (P : Program) (hb : Nat) (ι : Inj) (s : S) (w : World) (ρ : Operand → Value) (o : Oper) : OR → Prop
  | .val v s' => ValPost P hb ι s w ρ o v s'
  | .call f args => bodyOk P f = true ∧ ∃ args' : Array Value, (execOp ρ o).run P w = .ok (.enter f args') w ∧ VRelL ι args args'.toList
  | .round _ _ => True
  | .dfr f c a => bodyOk P f = true ∧ ∃ d, (execOp ρ o).run P w = .ok (.defer d) w ∧ DefRel ι (.call f c a) d
  | .rcv => (execOp ρ o).run P w = .ok .recover w
  | .upd r k x => ∃ t kt et kk l k' x', P.underlying t = some (.map kt et) ∧ keyKind P kt = some kk ∧ keyOk kk k = true ∧ ι r = some l ∧ VRel ι k k' ∧ VRel ι x x' ∧ notTup x = true ∧
      s.h.get r = some .hole ∧ ∀ w, (execOp ρ o).run P w = ((Instr.mapUpdate t (.map (some l.blk)) k' x').run P w).andThen fun _ w' => .ok .skip w'
  | .pan t v => ∃ v', (execOp ρ o).run P w = .halt (.panic (.iface t v')) w ∧ VRel ι v v'
  | .bad _ => True
def HdOk (P : Program) (o : Oper) (f : T Value → S → OR) : Prop :=
  ∀ hb ι s w g ρ, SRel P ι s w → hb ≤ s.nx → s.lo ≤ s.nx → ORho ι g ρ o.op.operands.toList → HdPost P hb ι s w ρ o (f g s)

def RunOk (P : Program) (o : Oper) : Run → Prop
  | .pu f => PuOk P o f
  | .rd f => RdOk P o f
  | .al f => AlOk P o f
  | .hd f => HdOk P o f

theorem RunOk.no (P : Program) (o : Oper) : RunOk P o rdNo := fun _ _ _ _ h => by cases h

variable {P : Program}

/-! ### the model's words, as runs -/
theorem szOf_eq {t : TypeId} {n : Nat} (h : szOf P t = some n) : ∃ i, P.info? t = some i ∧ i.size = n := by
  unfold szOf at h
  cases hi : P.info? t with
  | none => simp [hi] at h
  | some i => simp [hi] at h; exact ⟨i, rfl, h⟩
theorem zeroOf_eq {t : TypeId} {z : Value} (h : zeroOf P t = some z) : ∃ i, P.info? t = some i ∧ i.zero = some z := by
  unfold zeroOf at h
  cases hi : P.info? t with
  | none => simp [hi] at h
  | some i => simp [hi] at h; exact ⟨i, rfl, h⟩
theorem run_typeInfo' {t : TypeId} {i : TypeInfo} (h : P.info? t = some i) (w : World) : (typeInfo t).run P w = .ok i w := by
  simp [typeInfo, h]
theorem run_sizeOf' {t : TypeId} {n : Nat} (h : szOf P t = some n) (w : World) : (sizeOf t).run P w = .ok n w := by
  obtain ⟨i, hi, rfl⟩ := szOf_eq h
  simp [sizeOf, run_typeInfo' hi]
theorem run_zeroValue' {t : TypeId} {z : Value} (h : zeroOf P t = some z) (w : World) : (zeroValue t).run P w = .ok z w := by
  obtain ⟨i, hi, hz⟩ := zeroOf_eq h
  simp [zeroValue, run_typeInfo' hi, hz]
theorem run_isAgg' {t : TypeId} {d : TypeDesc} (h : P.underlying t = some d) (w : World) : (isAgg t).run P w = .ok (aggB P t) w := by
  simp only [isAgg, Sem.run_bind, run_underlying h, Result.andThen_ok, aggB, h]
  cases d <;> rfl
theorem aggB_some {t : TypeId} (h : aggB P t = true) : ∃ d, P.underlying t = some d := by
  unfold aggB at h
  cases hu : P.underlying t with
  | none => simp [hu] at h
  | some d => exact ⟨d, rfl⟩

theorem Addr.add_none (b off n : Nat) : Addr.add ⟨b, off, none⟩ n = ⟨b, off + n, none⟩ := Addr.add_lit b off n

theorem VRel.notTup {ι : Inj} {v v' : Value} (r : VRel ι v v') (h : notTup v = true) : notTup v' = true := by
  cases r <;> first | rfl | simp [AM.notTup] at h

end Go.AM
