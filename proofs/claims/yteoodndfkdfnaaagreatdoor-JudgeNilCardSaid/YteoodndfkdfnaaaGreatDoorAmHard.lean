/- Operations that act: maps, iterators, calls. -/
import Derived.Test.YteoodndfkdfnaaaGreatDoorAmMapSt
namespace Go.AM
variable {P : Program} {o : Oper} {ι : Inj} {s : S} {w w' : World}

theorem ok_mapR {t : TypeId} {m k x : Operand} (ho : o.op = .mapUpdate t m k x ∨ o.op = .insert t m k x) : RunOk P o (cr.mapR P t m k x) := by
  have hex : ∀ ρ, execOp ρ o = (do Instr.mapUpdate t (ρ m) (ρ k) (ρ x); pure .skip) := by
    intro ρ; rcases ho with h | h <;> simp only [execOp, h]
  have hops : o.op.operands.toList = [m, k, x] := by rcases ho with h | h <;> simp [h, Op.operands]
  simp only [cr.mapR]
  cases hx : opdOk m && opdOk k && opdOk x with
  | false => exact RunOk.no _ _
  | true =>
    simp only [Bool.and_eq_true] at hx
    simp only [cond_true]
    cases hu : P.underlying t with
    | none => exact RunOk.no _ _
    | some d =>
      cases d with
      | map kt et =>
        simp only []
        cases hkk : keyKind P kt with
        | none => exact RunOk.no _ _
        | some kk =>
          intro hb ι s w g ρ hS hn hlo hr
          have hrm := hr m (by rw [hops]; simp) hx.1.1
          have hrk := hr k (by rw [hops]; simp) hx.1.2
          have hrx := hr x (by rw [hops]; simp) hx.2
          cases he : ev g m with
          | map r =>
            cases r with
            | none => simp only [he]; trivial
            | some r =>
              simp only [he]
              rw [he] at hrm
              obtain ⟨l, hi, e⟩ := hrm.map_inv
              cases hg : s.h.get r with
              | none => trivial
              | some ob =>
                cases ob with
                | map es clk =>
                  simp only []
                  cases hc : keyOk kk (ev g k) && notTup (ev g x) && Nat.ble s.lo r with
                  | false => trivial
                  | true =>
                    simp only [cond_true]
                    simp only [Bool.and_eq_true, Nat.ble_eq] at hc
                    cases hp : putK kk (ev g k) (ev g x) es with
                    | none => trivial
                    | some q =>
                      obtain ⟨nw, es2⟩ := q
                      simp only []
                      obtain ⟨es', lst, h1, h2, h3, h4, h5, h6⟩ := hS.mapAt hi hg
                      have ek := keyOk_vrel hc.1.1 hrk
                      obtain ⟨res, f1, f2, f3⟩ := map_put_rel (P := P) hc.1.1 hp h2 h3 h4 h5 h6 hrx hkk w l
                      obtain ⟨w', r1, r2⟩ := run_mapUpdate (P := P) hu hkk (x := ρ x) hc.1.1 h1 f1 f2
                      refine ⟨ι, w', undef, .inr ⟨?_, rfl⟩, .tuple .nil, hS.putO hi hg (by intro b h; cases h) (by intro p; simp [Par]) r2 f3, Fm.put hi hg trivial hc.2 r2⟩
                      rw [hex, e, ek]
                      simp [r1]
                | hole =>
                  simp only []
                  cases hc : keyOk kk (ev g k) && notTup (ev g x) with
                  | false => trivial
                  | true =>
                    simp only [Bool.and_eq_true] at hc
                    refine ⟨t, kt, et, kk, l, ρ k, ρ x, hu, hkk, hc.1, hi, hrk, hrx, hc.2, hg, fun w => ?_⟩
                    rw [hex, e]
                    simp
                | _ => trivial
          | _ => simp only [he]; trivial
      | _ => exact RunOk.no _ _

theorem ok_range {t : TypeId} {x : Operand} (ho : o.op = .range t x) : RunOk P o (cr P (.range t x)) := by
  simp only [cr]
  cases hx : opdOk x with
  | false => exact RunOk.no _ _
  | true =>
    simp only [cond_true]
    cases hu : P.underlying t with
    | none => exact RunOk.no _ _
    | some d =>
      cases d with
      | map kt et =>
        intro hb ι s w g ρ hS hn hlo hr
        have hrx := hr x (by simp [ho, Op.operands]) hx
        cases he : ev g x with
        | map r =>
          cases r with
          | none => simp only [he]; trivial
          | some r =>
            simp only [he]
            rw [he] at hrx
            obtain ⟨l, hi, e⟩ := hrx.map_inv
            cases hg : s.h.get r with
            | none => trivial
            | some ob =>
              cases ob with
              | map es clk =>
                simp only []
                obtain ⟨es', lst, h1, h2, h3, h4, h5, h6⟩ := hS.mapAt hi hg
                have hpush := WPush.mk' w (.mapIter (some l.blk) clk #[] clk)
                have hup := Ext.up (ι := ι) ⟨w.heap.size, 0, 0⟩ (hS.fresh _ (Nat.le_refl s.nx))
                refine ⟨ι.up s.nx ⟨w.heap.size, 0, 0⟩, _, .pointer (some ⟨w.heap.size, 0, none⟩), .inl ?_, ?_, hS.push (by intro p; simp [Par]) hpush (.iter rfl (hup _ _ hi)), Fm.push hS hn hlo hpush⟩
                · simp [execOp, ho, e, Instr.range, run_underlying hu, run_getObj_map h1]
                · simpa [ptrTo] using VRel.ptr (off := 0) (sp := none) (Inj.up_self ι s.nx ⟨w.heap.size, 0, 0⟩)
              | _ => trivial
        | _ => simp only [he]; trivial
      | _ => exact RunOk.no _ _

theorem run_getObj_iter {r : Nat} {m : Option Nat} {since : Nat} {seen : Array Nat} {st : Nat} (h : w.heap[r]? = some (.mapIter m since seen st)) : (getObj r).run P w = .ok (.mapIter m since seen st) w := by
  simp only [getObj, Sem.run, h]

theorem ok_next {it : Operand} {b : Bool} (ho : o.op = .next it b) : RunOk P o (cr P (.next it b)) := by
  simp only [cr]
  cases hx : opdOk it && !b with
  | false => exact RunOk.no _ _
  | true =>
    simp only [Bool.and_eq_true, Bool.not_eq_true'] at hx
    obtain ⟨hx, rfl⟩ := hx
    intro hb ι s w g ρ hS hn hlo hr
    have hrx := hr it (by simp [ho, Op.operands]) hx
    have main : ∀ r sp m c, ev g it = .pointer (some ⟨r, 0, sp⟩) → s.h.get r = some (.iter (some m) c) → s.h.get m = some (.map [] c) →
        HdPost P hb ι s w ρ o (.val (.tuple #[.bool false]) s) := by
      intro r sp m c he hgr hgm
      rw [he] at hrx
      obtain ⟨l, hi, e⟩ := hrx.ptr_inv
      obtain ⟨o', q1, q2⟩ := hS.obj r l _ hi hgr
      cases q2 with
      | iter hz him =>
        rename_i lm
        obtain ⟨es', lst, h1, h2, h3, _, _, _⟩ := hS.mapAt him hgm
        have hes : es' = #[] := by
          cases h3
          have := h2.length_eq
          simp at this
          exact Array.size_eq_zero_iff.1 this.symm
        subst hes
        refine ⟨ι, w, .tuple #[.bool false], .inl ?_, .tuple (.cons (.bool _) .nil), hS, Fm.refl _ _ _ _⟩
        simp [execOp, ho, e, Instr.next, hz, run_getObj_iter q1, run_getObj_map h1, Question.forced]
    cases he : ev g it with
    | pointer p =>
      cases p with
      | none => simp only [he]; trivial
      | some p =>
        obtain ⟨r, off, sp⟩ := p
        cases off with
        | succ n => simp only [he]; trivial
        | zero =>
          simp only [he]
          cases hgr : s.h.get r with
          | none => trivial
          | some ob =>
            cases ob with
            | iter m c =>
              cases m with
              | none => trivial
              | some m =>
                simp only []
                cases hgm : s.h.get m with
                | none => trivial
                | some om =>
                  cases om with
                  | map es c' =>
                    cases es with
                    | cons _ _ => trivial
                    | nil =>
                      simp only []
                      cases hc : Nat.beq c c' with
                      | false => trivial
                      | true =>
                        have := Nat.eq_of_beq_eq_true hc
                        subst this
                        exact main r sp m c he hgr hgm
                  | _ => trivial
            | _ => trivial
    | _ => simp only [he]; trivial

/-! ### calls -/
theorem allNotTup_evs {g : T Value} : ∀ {xs : List Operand}, allNotTup (evs g xs) = true → ∀ x ∈ xs, notTup (ev g x) = true
  | [], _, x, h => by simp at h
  | y :: ys, h, x, hx => by
    simp only [evs, allNotTup, Bool.and_eq_true] at h
    rcases List.mem_cons.1 hx with rfl | hm
    · exact h.1
    · exact allNotTup_evs h.2 x hm

theorem bodyOk_run {f : FuncId} (h : bodyOk P f = true) (args : Array Value) (w : World) : (callFunc f args).run P w = .ok (.enter f args) w := by
  unfold bodyOk at h
  cases hf : P.funcs[f]? with
  | none => simp [hf] at h
  | some fn =>
    simp only [hf, Bool.and_eq_true, Bool.not_eq_true'] at h
    have hb : fn.body.isNone = false := by cases hb : fn.body <;> simp_all
    simp only [callFunc, Sem.run_bind, run_program, Result.andThen_ok, hf, h.2, Bool.false_eq_true, if_false, hb, Sem.run_pure]

theorem ok_callV {c : Call} {f : Operand} (ho : o.op = .call c) (hc : c.callee = .value f) : RunOk P o (callR P c) := by
  simp only [callR, hc]
  cases hx : opdOk f && opdsOk c.args.toList with
  | false => exact RunOk.no _ _
  | true =>
    simp only [Bool.and_eq_true] at hx
    intro hb ι s w g ρ hS hn hlo hr
    have hops : o.op.operands.toList = f :: c.args.toList := by simp [ho, Op.operands, Call.operands, hc]
    have hrf := hr f (by rw [hops]; simp) hx.1
    have hra := evs_rel hx.2 (hr.sub (by rw [hops]; intro x hx; simp [hx]))
    simp only []
    cases hn' : allNotTup (evs g c.args.toList) with
    | false => trivial
    | true =>
      simp only [cond_true]
      unfold callV
      cases he : ev g f with
      | func fn first captured =>
        cases fn with
        | func fi =>
          simp only []
          cases hbo : bodyOk P fi with
          | false => trivial
          | true =>
            rw [he] at hrf
            obtain ⟨a', b', e, h1, h2⟩ := hrf.func_inv
            refine ⟨hbo, a' ++ c.args.map ρ ++ b', ?_, ?_⟩
            · simp only [execOp, ho, resolve, hc, e, Deferred.ofValue, Sem.run_bind, Sem.run_pure, Result.andThen_ok, invoke, bodyOk_run hbo]
            · simpa using (h1.append hra).append h2
        | yield l => trivial
        | _ => trivial
      | _ => trivial

theorem ok_defer {c : Call} (ho : o.op = .defer c) : RunOk P o (cr P (.defer c)) := by
  simp only [cr]
  cases hc : c.callee with
  | value f =>
    simp only []
    cases hx : opdOk f && opdsOk c.args.toList with
    | false => exact RunOk.no _ _
    | true =>
      simp only [Bool.and_eq_true] at hx
      intro hb ι s w g ρ hS hn hlo hr
      have hops : o.op.operands.toList = f :: c.args.toList := by simp [ho, Op.operands, Call.operands, hc]
      have hrf := hr f (by rw [hops]; simp) hx.1
      have hra := evs_rel hx.2 (hr.sub (by rw [hops]; intro x hx; simp [hx]))
      simp only []
      cases hn' : allNotTup (evs g c.args.toList) with
      | false => trivial
      | true =>
        simp only [cond_true]
        cases he : ev g f with
        | func fn first captured =>
          cases fn with
          | func fi =>
            simp only []
            cases hbo : bodyOk P fi with
            | false => trivial
            | true =>
              rw [he] at hrf
              obtain ⟨a', b', e, h1, h2⟩ := hrf.func_inv
              refine ⟨hbo, { target := .fn (.func fi) b', args := a' ++ c.args.map ρ }, ?_, .call h2 (by simpa using h1.append hra)⟩
              simp only [execOp, ho, resolve, hc, e, Deferred.ofValue, Sem.run_bind, Sem.run_pure, Result.andThen_ok]
          | _ => trivial
        | _ => trivial
  | _ => exact RunOk.no _ _

theorem ok_panic {x : Operand} (ho : o.op = .panic x) : RunOk P o (cr P (.panic x)) := by
  simp only [cr]
  cases hx : opdOk x with
  | false => exact RunOk.no _ _
  | true =>
    intro hb ι s w g ρ hS hn hlo hr
    have hrx := hr x (by simp [ho, Op.operands]) hx
    cases he : ev g x with
    | iface t v =>
      simp only [he]
      rw [he] at hrx
      obtain ⟨v', e, h⟩ := hrx.iface_inv
      exact ⟨v', by simp [execOp, ho, e, Instr.panic], h⟩
    | _ => simp only [he]; trivial

theorem ok_recover {c : Call} (ho : o.op = .call c) (hc : c.callee = .builtin .recover) : RunOk P o (builtinR P .recover c) := by
  simp only [builtinR]
  match ha : c.args.toList with
  | [] =>
    intro hb ι s w g ρ hS hn hlo hr
    show (execOp ρ o).run P w = .ok .recover w
    rw [call_builtin ho hc, args_of ha]
    rfl
  | _ :: _ => exact RunOk.no _ _

end Go.AM
