/- Operations that read memory. -/
import Derived.Test.YteoodndfkdfnaaaGreatDoorAmPure5
namespace Go.AM
variable {P : Program} {o : Oper} {ι : Inj} {s : S} {w : World}

theorem loadL_spec {c : T Value} : ∀ {n i : Nat} {l : List Value}, loadL c n i = some l → l.length = n ∧ ∀ j, j < n → ∃ v, c.get (i + j) = some v ∧ l[j]? = some v
  | 0, i, l, h => by simp only [loadL, Option.some.injEq] at h; subst h; exact ⟨rfl, fun j hj => by omega⟩
  | n + 1, i, l, h => by
    simp only [loadL] at h
    cases hc : c.get i with
    | none => simp [hc] at h
    | some v =>
      cases hl : loadL c n (Nat.succ i) with
      | none => simp [hc, hl] at h
      | some l' =>
        simp only [hc, hl, Option.some.injEq] at h; subst h
        obtain ⟨h1, h2⟩ := loadL_spec hl
        refine ⟨by simp [h1], fun j hj => ?_⟩
        cases j with
        | zero => exact ⟨v, hc, rfl⟩
        | succ j =>
          obtain ⟨u, a, b⟩ := h2 j (by omega)
          exact ⟨u, by rw [← a]; congr 1; omega, by simpa using b⟩

/-- a row that is there -/
theorem SRel.row (h : SRel P ι s w) {b : Nat} {l : Loc} {c : T Value} {n : Nat} {e : TypeId} {p : Option Nat} {st : Nat} (hi : ι b = some l) (hb : s.h.get b = some (.blk ⟨c, n, e, p, st⟩)) (hst : st < 2) :
    ∃ cells fr, w.heap[l.blk]? = some (.cells cells e fr) ∧ cells.size = l.top ∧ l.base + n ≤ l.top ∧
      (∀ i v, c.get i = some v → i < n → ∃ v', cells[l.base + i]? = some v' ∧ VRel ι v v') ∧ (fr = (0, 0) ∨ fr = (l.top, l.top + 1)) := by
  obtain ⟨o', h1, h2⟩ := h.obj b l _ hi hb
  cases h2 with
  | dead _ hd => omega
  | blk a1 a2 a3 a4 => exact ⟨_, _, h1, a1, a2, a3, a4⟩

theorem cell_of_heap {w : World} {b i : Nat} {cells : Array Value} {e : TypeId} {fr : Nat × Nat} (h : w.heap[b]? = some (.cells cells e fr)) : w.cell? ⟨b, i, none⟩ = cells[i]? := by
  simp [World.cell?, h]
theorem frozen_of_heap {w : World} {b i : Nat} {cells : Array Value} {e : TypeId} {fr : Nat × Nat} (h : w.heap[b]? = some (.cells cells e fr)) : w.frozen? ⟨b, i, none⟩ = (decide (fr.1 ≤ i) && decide (i < fr.2)) := by
  obtain ⟨lo, hi⟩ := fr
  simp [World.frozen?, h]

theorem cell_rel (h : SRel P ι s w) {b off : Nat} {l : Loc} {v : Value} (hi : ι b = some l) (hc : s.cell b off = some v) :
    ∃ v', w.cell? ⟨l.blk, l.base + off, none⟩ = some v' ∧ VRel ι v v' := by
  unfold S.cell at hc
  cases hb : s.blk? b with
  | none => simp [hb] at hc
  | some x =>
    obtain ⟨c, n, e, p, st⟩ := x
    simp only [hb] at hc
    cases hk : Nat.blt st 2 && Nat.blt off n with
    | false => rw [hk] at hc; cases hc
    | true =>
      rw [hk] at hc; simp only [cond_true] at hc
      simp only [Bool.and_eq_true, Nat.blt_eq] at hk
      rw [S.blk?_eq] at hb
      obtain ⟨cells, fr, h1, _, _, h4, _⟩ := h.row hi hb hk.1
      obtain ⟨v', x1, x2⟩ := h4 off v hc hk.2
      exact ⟨v', by rw [cell_of_heap h1]; exact x1, x2⟩

theorem load_rel (h : SRel P ι s w) {b off n : Nat} {l : Loc} {vs : List Value} (hi : ι b = some l) (hc : s.load b off n = some vs) :
    ∃ vs' : List Value, VRelL ι vs vs' ∧ vs'.length = n ∧ ∀ j v, vs'[j]? = some v → w.cell? (Addr.add ⟨l.blk, l.base + off, none⟩ j) = some v := by
  unfold S.load at hc
  cases hb : s.blk? b with
  | none => simp [hb] at hc
  | some x =>
    obtain ⟨c, m, e, p, st⟩ := x
    simp only [hb] at hc
    cases hk : Nat.blt st 2 && Nat.ble (Nat.add off n) m with
    | false => rw [hk] at hc; cases hc
    | true =>
      rw [hk] at hc; simp only [cond_true] at hc
      simp only [Bool.and_eq_true, Nat.blt_eq, Nat.ble_eq, Nat.add_eq] at hk
      rw [S.blk?_eq] at hb
      obtain ⟨cells, fr, h1, hsz, htop, h4, _⟩ := h.row hi hb hk.1
      obtain ⟨hl, hj⟩ := loadL_spec hc
      refine ⟨(cells.toList.drop (l.base + off)).take n, ?_, ?_, ?_⟩
      · refine VRelL.of_get ?_ ?_
        · simp [hl]; omega
        · intro j v v' a a'
          have hjn : j < n := by
            rcases Nat.lt_or_ge j vs.length with x | x
            · omega
            · rw [List.getElem?_eq_none x] at a; cases a
          obtain ⟨u, x1, x2⟩ := hj j hjn
          rw [x2] at a; cases a
          obtain ⟨u', y1, y2⟩ := h4 (off + j) v x1 (by omega)
          rw [List.getElem?_take, if_pos hjn, List.getElem?_drop, Array.getElem?_toList, show l.base + off + j = l.base + (off + j) by omega, y1] at a'
          cases a'; exact y2
      · simp; omega
      · intro j v a
        have hjn : j < n := by
          rcases Nat.lt_or_ge j n with x | x
          · exact x
          · rw [List.getElem?_eq_none (by simp; omega)] at a; cases a
        rw [List.getElem?_take, if_pos hjn, List.getElem?_drop, Array.getElem?_toList] at a
        rw [Addr.add_none, cell_of_heap h1]; exact a

theorem ok_load {t : TypeId} {a : Operand} (ho : o.op = .load t a) : RunOk P o (cr P (.load t a)) := by
  simp only [cr]
  cases hx : opdOk a with
  | false => exact RunOk.no _ _
  | true =>
    simp only [cond_true]
    cases hag : aggB P t with
    | true =>
      simp only [cond_true]
      cases hs : szOf P t with
      | none => exact RunOk.no _ _
      | some n =>
        obtain ⟨d, hu⟩ := aggB_some hag
        intro ι s w g ρ v hv hS hr
        have hrx := hr a (by simp [ho, Op.operands]) hx
        simp only [] at hv
        cases he : ev g a with
        | pointer p =>
          cases p with
          | none => simp [he] at hv
          | some p =>
            simp only [he] at hv
            cases hl : s.load p.block p.off n with
            | none => simp [hl] at hv
            | some vs =>
              simp only [hl, Option.some.injEq] at hv; subst hv
              rw [he] at hrx
              obtain ⟨l, hi, e⟩ := hrx.ptr_inv
              obtain ⟨vs', h1, h2, h3⟩ := load_rel hS hi hl
              refine ⟨.agg vs'.toArray, .agg (by simpa using h1), ?_⟩
              have := run_loadCells_list (P := P) w ⟨l.blk, l.base + p.off, none⟩ vs' h3
              rw [h2] at this
              simp [execOp, ho, e, Instr.loadAt, Instr.sureAddr, loadVar, run_isAgg' hu, hag, run_sizeOf' hs, this]
        | _ => simp [he] at hv
    | false =>
      simp only [cond_false]
      cases hu : P.underlying t with
      | none => exact RunOk.no _ _
      | some d =>
        intro ι s w g ρ v hv hS hr
        have hrx := hr a (by simp [ho, Op.operands]) hx
        simp only [] at hv
        cases he : ev g a with
        | pointer p =>
          cases p with
          | none => simp [he] at hv
          | some p =>
            simp only [he] at hv
            rw [he] at hrx
            obtain ⟨l, hi, e⟩ := hrx.ptr_inv
            obtain ⟨v', h1, h2⟩ := cell_rel hS hi hv
            exact ⟨v', h2, by simp [execOp, ho, e, Instr.loadAt, Instr.sureAddr, loadVar, run_isAgg' hu, hag, h1]⟩
        | _ => simp [he] at hv

/-! ### maps -/
theorem EsRel.length {ι : Inj} : ∀ {es : List (Value × Value)} {l : List MapEntry}, EsRel ι es l → es.length = l.length
  | _, _, .nil => rfl
  | _, _, .cons _ _ h => by simp [h.length]

theorem SRel.mapAt (h : SRel P ι s w) {r : Nat} {l : Loc} {es : List (Value × Value)} {clk : Nat} (hi : ι r = some l) (hg : s.h.get r = some (.map es clk)) :
    ∃ es' lst, w.heap[l.blk]? = some (.map es' clk) ∧ lst.Perm es'.toList ∧ EsRel ι es lst ∧ es.Pairwise (fun a b => KeyNe a.1 b.1) ∧ (∀ e ∈ es'.toList, e.born < clk) ∧ (es'.toList.map (·.born)).Nodup := by
  obtain ⟨o', h1, h2⟩ := h.obj r l _ hi hg
  cases h2 with
  | map a1 a2 a3 a4 a5 => exact ⟨_, _, h1, a1, a2, a3, a4, a5⟩

theorem run_getObj_map {r : Nat} {es : Array MapEntry} {clk : Nat} (h : w.heap[r]? = some (.map es clk)) : (getObj r).run P w = .ok (.map es clk) w := by
  simp only [getObj, Sem.run, h]

theorem ok_lenMap {c : Call} {t k e : TypeId} {x : Operand} (ho : o.op = .call c) (hc : c.callee = .builtin .len) (ht : c.argTypes[0]? = some t) (ha : c.args.toList = [x])
    (hu : P.underlying t = some (.map k e)) (hx : opdOk x = true) : RunOk P o (lenR (.map k e) x) := by
  intro ι s w g ρ v hv hS hr
  have hrx : VRel ι (ev g x) (ρ x) := hr x (by simp [ho, Op.operands, Call.operands, hc, args_of ha]) hx
  have hrun : ∀ v, (Builtin.len_ c.argTypes o.type #[ρ x]).run P w = .ok v w → (execOp ρ o).run P w = .ok (.value v) w := by
    intro v h
    rw [call_builtin ho hc, args_of ha]
    simp [builtin, h]
  simp only [] at hv
  cases he : ev g x with
  | map r =>
    rw [he] at hrx
    cases r with
    | none =>
      simp only [he, Option.some.injEq] at hv; subst hv
      have e := hrx.nilmap_inv
      exact ⟨_, .int _ _, hrun _ (by simp [Builtin.len_, ht, run_underlying hu, e, goInt])⟩
    | some r =>
      simp only [he] at hv
      cases hg : s.h.get r with
      | none => simp [hg] at hv
      | some ob =>
        cases ob <;> simp only [hg] at hv <;> try (cases hv; done)
        rename_i es clk
        simp only [Option.some.injEq] at hv; subst hv
        obtain ⟨l, hi, e⟩ := hrx.map_inv
        obtain ⟨es', lst, h1, h2, h3, _, _, _⟩ := hS.mapAt hi hg
        refine ⟨_, .int _ _, hrun _ ?_⟩
        have hlen : es'.size = es.length := by rw [h3.length, h2.length_eq]; simp
        simp [Builtin.len_, ht, run_underlying hu, e, run_getObj_map h1, goInt, hlen]
  | _ => simp [he] at hv

end Go.AM
