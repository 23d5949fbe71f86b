/- Every abstract operation is as the model's. -/
import Derived.Test.YteoodndfkdfnaaaGreatDoorAmAppend2
namespace Go.AM
variable {P : Program}

theorem ok_builtin {o : Oper} {c : Call} {b : Builtin} (ho : o.op = .call c) (hc : c.callee = .builtin b) : RunOk P o (builtinR P b c) := by
  cases b with
  | append => exact ok_append ho hc
  | cap => exact ok_cap ho hc
  | recover => exact ok_recover ho hc
  | min => exact ok_minmax false rfl ho hc
  | max => exact ok_minmax true rfl ho hc
  | len =>
    simp only [builtinR]
    cases ht : c.argTypes[0]? with
    | none => exact RunOk.no _ _
    | some t =>
      cases ha : c.args.toList with
      | nil => exact RunOk.no _ _
      | cons x l =>
        cases l with
        | cons _ _ => exact RunOk.no _ _
        | nil =>
          simp only []
          cases hu : P.underlying t with
          | none => exact RunOk.no _ _
          | some d =>
            simp only []
            cases hx : opdOk x with
            | false => exact RunOk.no _ _
            | true =>
              simp only [cond_true]
              cases d with
              | map k e => exact ok_lenMap ho hc ht ha hu hx
              | _ => exact ok_lenPu ho hc ht ha hu hx (by intro k e h; cases h)
  | _ => exact RunOk.no _ _

theorem cr_ok (o : Oper) : RunOk P o (cr P o.op) := by
  cases h : o.op with
  | move x => exact ok_move h
  | assign x => exact ok_assign h
  | pick c a b => exact ok_pick h
  | alloc e => exact ok_alloc h
  | box e x => exact ok_box h
  | build t parts => exact ok_build h
  | buildSlice t len parts => exact ok_buildSlice h
  | load t a => exact ok_load h
  | store t a x => exact ok_store h
  | nilCheck x => exact ok_nilCheck h
  | binOp op t x y n => exact ok_binOp h
  | unOp op t x => exact ok_unOp h
  | convert a b x => exact ok_convert h
  | makeInterface t x => exact ok_makeInterface h
  | makeFunc a b c => exact ok_makeFunc h
  | makeMap t r => exact ok_makeMap h
  | makeSlice t l c => exact ok_makeSlice h
  | slice t x lo hi mx => exact ok_slice h
  | fieldAddr t x f => exact ok_fieldAddr h
  | field t x f => exact ok_field h
  | indexAddr t x i => exact ok_indexAddr h
  | index t x i => exact ok_index h
  | lookup t x k ok => exact ok_lookup h
  | mapUpdate t m k x => exact ok_mapR (.inl h)
  | insert t m k x => exact ok_mapR (.inr h)
  | range t x => exact ok_range h
  | next it str => exact ok_next h
  | typeAssert x t a ok => exact ok_typeAssert h
  | extract t i => exact ok_extract h
  | defer c => exact ok_defer h
  | panic x => exact ok_panic h
  | call c =>
    show RunOk P o (callR P c)
    cases hc : c.callee with
    | builtin b => simp only [callR, hc]; exact ok_builtin h hc
    | invoke a b => simp only [callR, hc]; exact RunOk.no _ _
    | value f => exact ok_callV h hc
  | _ => exact RunOk.no _ _

end Go.AM
