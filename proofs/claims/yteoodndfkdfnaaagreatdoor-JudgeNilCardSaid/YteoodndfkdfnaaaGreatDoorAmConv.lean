/- Conversions. -/
import Derived.Test.YteoodndfkdfnaaaGreatDoorAmAlloc
import Derived.Laws.BytesString
import Derived.Lib.ConvBytes
namespace Go.AM
variable {P : Program} {o : Oper} {ι : Inj} {s : S} {w : World}

theorem bytesStr_spec : ∀ {l : List Value} {b : List UInt8}, bytesStr l = some b → ∃ ns : List Int, l = ns.map (Value.int .u8) ∧ b = ns.map fun n => UInt8.ofNat n.toNat
  | [], b, h => by simp only [bytesStr, Option.some.injEq] at h; subst h; exact ⟨[], rfl, rfl⟩
  | v :: l, b, h => by
    cases v with
    | int k n =>
      cases k <;> simp only [bytesStr] at h <;> try (cases h; done)
      cases hl : bytesStr l with
      | none => simp [hl] at h
      | some b' =>
        simp only [hl, Option.some.injEq] at h; subst h
        obtain ⟨ns, e1, e2⟩ := bytesStr_spec hl
        exact ⟨n :: ns, by simp [e1], by simp [e2]⟩
    | _ => simp [bytesStr] at h

theorem VRelL.ints {ι : Inj} : ∀ {ns : List Int} {l' : List Value}, VRelL ι (ns.map (Value.int .u8)) l' → l' = ns.map (Value.int .u8)
  | [], _, .nil => rfl
  | n :: ns, _, .cons h1 h2 => by rw [h1.int_inv, h2.ints]; rfl

theorem push_foldl (ns : List Int) : ∀ (b : ByteArray), ns.foldl (fun r n => r.push (UInt8.ofNat n.toNat)) b = ⟨(b.data.toList ++ ns.map fun n => UInt8.ofNat n.toNat).toArray⟩ := by
  induction ns with
  | nil => intro b; simp
  | cons n ns ih =>
    intro b
    simp only [List.foldl_cons, ih]
    apply ByteArray.ext
    simp [ByteArray.push]

theorem strBytes_eq (l : List UInt8) : strBytes l = l.map fun b => Value.int .u8 b.toNat := by
  induction l with
  | nil => rfl
  | cons b l ih => simp [strBytes, ih]

theorem grownCap_le (w : World) (n old e : Nat) : n ≤ grownCap w n old e := by unfold grownCap Question.cut; simp

theorem bytes_push (w : World) (e : TypeId) (b : ByteArray) : WPush w (Lib.bytesWorld w e b) (.cells (Lib.bytesCells w e b) e ((Lib.bytesCells w e b).size, (Lib.bytesCells w e b).size + 1)) := by
  refine ⟨Lib.bytesWorld_at_new w e b, fun c hc => Lib.bytesWorld_at_old w e b c hc, Lib.bytesWorld_size w e b, ?_, ?_, ?_⟩ <;>
    simp [Lib.bytesWorld, World.freeze, World.alloc, World.drew, -World.alloc_eq, -World.drew_eq]

theorem freeze_put {w : World} {b : Nat} {cells : Array Value} {e : TypeId} {fr : Nat × Nat} (h : w.heap[b]? = some (.cells cells e fr)) :
    WPut w (w.freeze ⟨b, cells.size, none⟩ 1) b (.cells cells e (if fr.1 == fr.2 then (cells.size, cells.size + 1) else (min fr.1 cells.size, max fr.2 (cells.size + 1)))) := by
  obtain ⟨lo, hi⟩ := fr
  refine ⟨?_, fun c hc => ?_, ?_, rfl, rfl, rfl⟩
  · simp [World.freeze, Array.getElem?_modify, h]
  · simp [World.freeze, Array.getElem?_modify, Ne.symm hc]
  · simp [World.freeze]

theorem ok_convert {src dst : TypeId} {x : Operand} (ho : o.op = .convert src dst x) : RunOk P o (cr P (.convert src dst x)) := by
  simp only [cr]
  cases hx : opdOk x with
  | false => exact RunOk.no _ _
  | true =>
    simp only [cond_true]
    have hops : ∀ ι g ρ, ORho ι g ρ o.op.operands.toList → VRel ι (ev g x) (ρ x) := fun ι g ρ hr => hr x (by simp [ho, Op.operands]) hx
    cases hs : P.underlying src with
    | none => exact RunOk.no _ _
    | some ds =>
      cases hd : P.underlying dst with
      | none => cases ds <;> exact RunOk.no _ _
      | some dd =>
        have hint : ∀ k, dd = .int k → PuOk P o (fun g => match ev g x with | .int _ n => some (.int k (wrapF k n)) | _ => none) := by
          intro k hk ι g ρ v hv hr
          subst hk
          have hrx := hops ι g ρ hr
          simp only [] at hv
          cases he : ev g x <;> simp only [he] at hv <;> try (cases hv; done)
          simp only [Option.some.injEq] at hv; subst hv
          rw [he] at hrx
          have e := hrx.int_inv
          refine ⟨_, .int _ _, fun w => ?_⟩
          simp only [execOp, ho, e, convert, Sem.run_bind, run_underlying hs, run_underlying hd, Result.andThen_ok]
          cases ds <;> simp [Conv.intToInt, wrapF_eq]
        cases dd with
        | int k => cases ds <;> exact hint k rfl
        | string =>
          cases ds with
          | string =>
            intro ι g ρ v hv hr
            have hrx := hops ι g ρ hr
            simp only [] at hv
            cases he : ev g x <;> simp only [he] at hv <;> try (cases hv; done)
            simp only [Option.some.injEq] at hv; subst hv
            rw [he] at hrx
            have e := hrx.string_inv
            exact ⟨_, .string _, fun w => by simp [execOp, ho, e, convert, run_underlying hs, run_underlying hd]⟩
          | slice e =>
            simp only []
            cases heu : P.underlying e with
            | none => exact RunOk.no _ _
            | some de =>
              cases de with
              | int k =>
                cases k with
                | u8 =>
                  intro ι s w g ρ v hv hS hr
                  have hrx := hops ι g ρ hr
                  simp only [] at hv
                  cases he : ev g x with
                  | slice a n c =>
                    rw [he] at hrx
                    cases a with
                    | none =>
                      simp only [he, Option.some.injEq] at hv; subst hv
                      have e1 := hrx.nilslice_inv
                      refine ⟨_, .string _, ?_⟩
                      simp [execOp, ho, e1, run_convert_bytes_string w src dst e none n c hs heu hd, Conv.bytesToString]
                    | some a =>
                      simp only [he] at hv
                      cases hl : s.load a.block a.off n with
                      | none => simp [hl] at hv
                      | some vs =>
                        simp only [hl] at hv
                        cases hb : bytesStr vs with
                        | none => simp [hb] at hv
                        | some b =>
                          simp only [hb, Option.some.injEq] at hv; subst hv
                          obtain ⟨l, off', c', hi, hnc, hcc, _, _, hoff, e1⟩ := hrx.slice_inv
                          obtain ⟨vs', h1, h2, h3⟩ := load_rel hS hi hl
                          obtain ⟨ns, q1, q2⟩ := bytesStr_spec hb
                          rw [q1] at h1
                          have hvs := h1.ints
                          refine ⟨_, .string _, ?_⟩
                          have hrun : (loadCells ⟨l.blk, off', none⟩ n).run P w = .ok (ns.map (Value.int .u8)).toArray w := by
                            by_cases hc0 : c' = 0
                            · have hn0 : n = 0 := by omega
                              have hns : ns = [] := by
                                have : vs'.length = 0 := by omega
                                rw [hvs] at this; simpa using this
                              subst hns; rw [hn0]; rfl
                            · rw [hoff hc0]
                              have := run_loadCells_list (P := P) w ⟨l.blk, l.base + a.off, none⟩ vs' h3
                              rw [h2, hvs] at this; exact this
                          have hfin := run_bytesToString (P := P) w ⟨l.blk, off', none⟩ n c' ns hrun
                          rw [push_foldl] at hfin
                          simp only [execOp, ho, e1, Sem.run_bind, run_convert_bytes_string w src dst e _ n c' hs heu hd, hfin, Result.andThen_ok, Sem.run_pure, q2]
                          rfl
                  | _ => simp [he] at hv
                | _ => exact RunOk.no _ _
              | _ => exact RunOk.no _ _
          | _ => exact RunOk.no _ _
        | slice e =>
          cases ds with
          | string =>
            simp only []
            cases heu : P.underlying e with
            | none => exact RunOk.no _ _
            | some de =>
              cases de with
              | int k =>
                cases k with
                | u8 =>
                  cases hsz : szOf P e with
                  | none => exact RunOk.no _ _
                  | some n =>
                    match n with
                    | 0 => exact RunOk.no _ _
                    | n + 2 => exact RunOk.no _ _
                    | 1 =>
                      intro ι g ρ ob mk hv hr
                      have hrx := hops ι g ρ hr
                      simp only [] at hv
                      cases he : ev g x <;> simp only [he] at hv <;> try (cases hv; done)
                      rename_i b
                      simp only [Option.some.injEq, Prod.mk.injEq] at hv
                      obtain ⟨rfl, rfl⟩ := hv
                      rw [he] at hrx
                      have e1 := hrx.string_inv
                      refine ⟨newB_par _ _, fun w => ⟨(Lib.bytesCells w e b).size, _, _, .slice (some ⟨w.heap.size, 0, none⟩) b.size (grownCap w b.size 0 e), bytes_push w e b, ?_, ?_⟩⟩
                      · simp only [execOp, ho, e1, Sem.run_bind, Lib.run_convert_string_bytes w src dst e b hs hd heu, Result.andThen_ok, Sem.run_pure]
                      · intro ι' bb hx' hbb
                        have hbs : b.data.size = b.size := rfl
                        have hge := grownCap_le w b.size 0 e
                        have hcs : (Lib.bytesCells w e b).size = grownCap w b.size 0 e := by simp [Lib.bytesCells]; omega
                        refine ⟨newB_rel _ ?_ ?_ rfl (.inr rfl), ?_⟩
                        · rw [strBytes_eq]
                          have : (Lib.bytesCells w e b).toList.take (b.data.toList.map fun x => Value.int .u8 (x.toNat : Int)).length = b.data.toList.map fun x => Value.int .u8 (x.toNat : Int) := by
                            simp [Lib.bytesCells]
                          rw [this]
                          have hpl : ∀ l : List UInt8, VRelL ι' (l.map fun x => Value.int .u8 (x.toNat : Int)) (l.map fun x => Value.int .u8 (x.toNat : Int)) := by
                            intro l
                            induction l with
                            | nil => exact .nil
                            | cons a l ih => exact .cons (.int _ _) ih
                          exact hpl _
                        · rw [strBytes_eq]; simp; omega
                        · exact VRel.slice hbb (Nat.le_refl _) hge (fun h => by cases h) (fun z hz _ => by cases hz; simp [hcs]) (fun _ => rfl)
                | _ => exact RunOk.no _ _
              | _ => exact RunOk.no _ _
          | slice e' =>
            cases hsd : Nat.beq src dst with
            | false => exact RunOk.no _ _
            | true =>
              simp only [cond_true]
              have hsd' := Nat.eq_of_beq_eq_true hsd
              subst hsd'
              have hee : e' = e := by rw [hs] at hd; cases hd; rfl
              subst hee
              cases heu : P.underlying e' with
              | none => exact RunOk.no _ _
              | some de =>
                cases de with
                | int k =>
                  cases k with
                  | u8 =>
                    intro hb ι s w g ρ hS hn hlo hr
                    have hrx := hops ι g ρ hr
                    cases he : ev g x with
                    | slice a n c =>
                      cases a with
                      | none => simp only [he]; trivial
                      | some a =>
                        simp only [he]
                        cases hbk : s.blk? a.block with
                        | none => trivial
                        | some bk =>
                          rw [he] at hrx
                          obtain ⟨l, off', c', hi, hnc, hcc, hex, hop, hoff, e1⟩ := hrx.slice_inv
                          rw [S.blk?_eq] at hbk
                          cases hlt : Nat.blt bk.st 2 with
                          | false => simp only [hlt, cond_false]; trivial
                          | true =>
                          simp only [hlt, cond_true]
                          have hlt' : bk.st < 2 := by simpa using hlt
                          simp only [HdPost, ValPost]
                          have hconv : (execOp ρ o).run P w = ((markStringish ⟨l.blk, off', none⟩).run P w).andThen fun _ w' => .ok (.value (.slice (some ⟨l.blk, off', none⟩) n c')) w' := by
                            simp only [execOp, ho, e1, convert, Sem.run_bind, run_underlying hs, run_underlying hd, Result.andThen_ok, beq_self_eq_true]
                            simp only [run_underlying heu, Sem.run_bind, Result.andThen_ok, Sem.run_pure]
                            cases (markStringish ⟨l.blk, off', none⟩).run P w <;> rfl
                          obtain ⟨o', ho', hro⟩ := hS.obj a.block l _ hi hbk
                          cases o' with
                          | cells cells ce fr =>
                            refine ⟨ι, w.freeze ⟨l.blk, cells.size, none⟩ 1, .slice (some ⟨l.blk, off', none⟩) n c', .inl ?_, by rw [e1] at hrx; exact hrx, ?_, ?_⟩
                            · rw [hconv]
                              simp [markStringish, World.shape?, ho']
                            · refine hS.touch (freeze_put ho') ?_
                              intro id l2 o2 h1 h2 h3
                              obtain ⟨o3, q1, q2⟩ := hS.obj id l2 o2 h1 h3
                              rw [h2, ho'] at q1; cases q1
                              cases q2 with
                              | dead _ x => exact .dead _ x
                              | blk b1 b2 b3 b4 =>
                                refine .blk b1 b2 b3 (.inr ?_)
                                rcases b4 with rfl | rfl
                                · simp [b1]
                                · simp [b1]
                            · exact Fm.touch ⟨a.block, l, _, hi, rfl, hbk, hlt'⟩ (freeze_put ho')
                          | _ =>
                            refine ⟨ι, w, .slice (some ⟨l.blk, off', none⟩) n c', .inl ?_, by rw [e1] at hrx; exact hrx, hS, Fm.refl _ _ _ _⟩
                            rw [hconv]
                            simp [markStringish, World.shape?, ho']
                    | _ => simp only [he]; trivial
                  | _ => exact RunOk.no _ _
                | _ => exact RunOk.no _ _
          | _ => exact RunOk.no _ _
        | _ => cases ds <;> exact RunOk.no _ _

end Go.AM
