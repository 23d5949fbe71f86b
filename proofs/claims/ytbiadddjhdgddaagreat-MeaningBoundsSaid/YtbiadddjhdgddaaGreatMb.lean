/- The abstract machine, part 2: an interpreter that is proved sound against the model for every tape. No conditions of its own: each theorem bears its own. -/
import Derived.Test.YtbiadddjhdgddaaGreatMa
import Derived.Laws.BytesString
import Derived.Lib.ConvBytes
import Derived.AtR
set_option linter.unusedSimpArgs false
set_option linter.unusedVariables false
/- Operations that read memory. -/
namespace Go.AM
variable {P : Program} {o : Oper} {ι : Inj} {s : S} {w : World}

theorem loadL_spec {c : T Value} : ∀ {n i : Nat} {l : List Value}, loadL c n i = some l → l.length = n ∧ ∀ j, j < n → ∃ v, c.get (i + j) = some v ∧ l[j]? = some v
  | 0, i, l, h => by simp only [loadL, Option.some.injEq] at h; subst h; exact ⟨rfl, fun j hj => by omega⟩
  | n + 1, i, l, h => by
    simp only [loadL] at h
    cases hc : c.get i with
    | none => simp [hc] at h
    | some v =>
      cases hl : loadL c n (Nat.succ i) with
      | none => simp [hc, hl] at h
      | some l' =>
        simp only [hc, hl, Option.some.injEq] at h; subst h
        obtain ⟨h1, h2⟩ := loadL_spec hl
        refine ⟨by simp [h1], fun j hj => ?_⟩
        cases j with
        | zero => exact ⟨v, hc, rfl⟩
        | succ j =>
          obtain ⟨u, a, b⟩ := h2 j (by omega)
          exact ⟨u, by rw [← a]; congr 1; omega, by simpa using b⟩

/-- a row that is there -/
theorem SRel.row (h : SRel P ι s w) {b : Nat} {l : Loc} {c : T Value} {n : Nat} {e : TypeId} {p : Option Nat} {st : Nat} (hi : ι b = some l) (hb : s.h.get b = some (.blk ⟨c, n, e, p, st⟩)) (hst : st < 2) :
    ∃ cells fr, w.heap[l.blk]? = some (.cells cells e fr) ∧ cells.size = l.top ∧ l.base + n ≤ l.top ∧
      (∀ i v, c.get i = some v → i < n → ∃ v', cells[l.base + i]? = some v' ∧ VRel ι v v') ∧ FrOk P e l.top fr := by
  obtain ⟨o', h1, h2⟩ := h.obj b l _ hi hb
  cases h2 with
  | dead _ hd => omega
  | blk a1 a2 a3 a4 => exact ⟨_, _, h1, a1, a2, a3, a4⟩

theorem cell_of_heap {w : World} {b i : Nat} {cells : Array Value} {e : TypeId} {fr : Nat × Nat} (h : w.heap[b]? = some (.cells cells e fr)) : w.cell? ⟨b, i, none⟩ = cells[i]? := by
  simp [World.cell?, h]
theorem frozen_of_heap {w : World} {b i : Nat} {cells : Array Value} {e : TypeId} {fr : Nat × Nat} (h : w.heap[b]? = some (.cells cells e fr)) : w.frozen? ⟨b, i, none⟩ = (decide (fr.1 ≤ i) && decide (i < fr.2)) := by
  obtain ⟨lo, hi⟩ := fr
  simp [World.frozen?, h]

theorem cell_rel (h : SRel P ι s w) {b off : Nat} {l : Loc} {v : Value} (hi : ι b = some l) (hc : s.cell b off = some v) :
    ∃ v', w.cell? ⟨l.blk, l.base + off, none⟩ = some v' ∧ VRel ι v v' := by
  unfold S.cell at hc
  cases hb : s.blk? b with
  | none => simp [hb] at hc
  | some x =>
    obtain ⟨c, n, e, p, st⟩ := x
    simp only [hb] at hc
    cases hk : Nat.blt st 2 && Nat.blt off n with
    | false => rw [hk] at hc; cases hc
    | true =>
      rw [hk] at hc; simp only [cond_true] at hc
      simp only [Bool.and_eq_true, Nat.blt_eq] at hk
      rw [S.blk?_eq] at hb
      obtain ⟨cells, fr, h1, _, _, h4, _⟩ := h.row hi hb hk.1
      obtain ⟨v', x1, x2⟩ := h4 off v hc hk.2
      exact ⟨v', by rw [cell_of_heap h1]; exact x1, x2⟩

theorem load_rel (h : SRel P ι s w) {b off n : Nat} {l : Loc} {vs : List Value} (hi : ι b = some l) (hc : s.load b off n = some vs) :
    ∃ vs' : List Value, VRelL ι vs vs' ∧ vs'.length = n ∧ ∀ j v, vs'[j]? = some v → w.cell? (Addr.add ⟨l.blk, l.base + off, none⟩ j) = some v := by
  unfold S.load at hc
  cases hb : s.blk? b with
  | none => simp [hb] at hc
  | some x =>
    obtain ⟨c, m, e, p, st⟩ := x
    simp only [hb] at hc
    cases hk : Nat.blt st 2 && Nat.ble (Nat.add off n) m with
    | false => rw [hk] at hc; cases hc
    | true =>
      rw [hk] at hc; simp only [cond_true] at hc
      simp only [Bool.and_eq_true, Nat.blt_eq, Nat.ble_eq, Nat.add_eq] at hk
      rw [S.blk?_eq] at hb
      obtain ⟨cells, fr, h1, hsz, htop, h4, _⟩ := h.row hi hb hk.1
      obtain ⟨hl, hj⟩ := loadL_spec hc
      refine ⟨(cells.toList.drop (l.base + off)).take n, ?_, ?_, ?_⟩
      · refine VRelL.of_get ?_ ?_
        · simp [hl]; omega
        · intro j v v' a a'
          have hjn : j < n := by
            rcases Nat.lt_or_ge j vs.length with x | x
            · omega
            · rw [List.getElem?_eq_none x] at a; cases a
          obtain ⟨u, x1, x2⟩ := hj j hjn
          rw [x2] at a; cases a
          obtain ⟨u', y1, y2⟩ := h4 (off + j) v x1 (by omega)
          rw [List.getElem?_take, if_pos hjn, List.getElem?_drop, Array.getElem?_toList, show l.base + off + j = l.base + (off + j) by omega, y1] at a'
          cases a'; exact y2
      · simp; omega
      · intro j v a
        have hjn : j < n := by
          rcases Nat.lt_or_ge j n with x | x
          · exact x
          · rw [List.getElem?_eq_none (by simp; omega)] at a; cases a
        rw [List.getElem?_take, if_pos hjn, List.getElem?_drop, Array.getElem?_toList] at a
        rw [Addr.add_none, cell_of_heap h1]; exact a

theorem ok_load {t : TypeId} {a : Operand} (ho : o.op = .load t a) : RunOk P o (cr P (.load t a)) := by
  simp only [cr]
  cases hx : opdOk a with
  | false => exact RunOk.no _ _
  | true =>
    simp only [cond_true]
    cases hag : aggB P t with
    | true =>
      simp only [cond_true]
      cases hs : szOf P t with
      | none => exact RunOk.no _ _
      | some n =>
        obtain ⟨d, hu⟩ := aggB_some hag
        intro ι s w g ρ v hv hS hr
        have hrx := hr a (by simp [ho, Op.operands]) hx
        simp only [] at hv
        cases he : ev g a with
        | pointer p =>
          cases p with
          | none => simp [he] at hv
          | some p =>
            simp only [he] at hv
            cases hl : s.load p.block p.off n with
            | none => simp [hl] at hv
            | some vs =>
              simp only [hl, Option.some.injEq] at hv; subst hv
              rw [he] at hrx
              obtain ⟨l, hi, e⟩ := hrx.ptr_inv
              obtain ⟨vs', h1, h2, h3⟩ := load_rel hS hi hl
              refine ⟨.agg vs'.toArray, .agg (by simpa using h1), ?_⟩
              have := run_loadCells_list (P := P) w ⟨l.blk, l.base + p.off, none⟩ vs' h3
              rw [h2] at this
              simp [execOp, ho, e, Instr.loadAt, Instr.sureAddr, loadVar, run_isAgg' hu, hag, run_sizeOf' hs, this]
        | _ => simp [he] at hv
    | false =>
      simp only [cond_false]
      cases hu : P.underlying t with
      | none => exact RunOk.no _ _
      | some d =>
        intro ι s w g ρ v hv hS hr
        have hrx := hr a (by simp [ho, Op.operands]) hx
        simp only [] at hv
        cases he : ev g a with
        | pointer p =>
          cases p with
          | none => simp [he] at hv
          | some p =>
            simp only [he] at hv
            rw [he] at hrx
            obtain ⟨l, hi, e⟩ := hrx.ptr_inv
            obtain ⟨v', h1, h2⟩ := cell_rel hS hi hv
            exact ⟨v', h2, by simp [execOp, ho, e, Instr.loadAt, Instr.sureAddr, loadVar, run_isAgg' hu, hag, h1]⟩
        | _ => simp [he] at hv

/-! ### maps -/
theorem EsRel.length {ι : Inj} : ∀ {es : List (Value × Value)} {l : List MapEntry}, EsRel ι es l → es.length = l.length
  | _, _, .nil => rfl
  | _, _, .cons _ _ h => by simp [h.length]

theorem SRel.mapAt (h : SRel P ι s w) {r : Nat} {l : Loc} {es : List (Value × Value)} {clk : Nat} (hi : ι r = some l) (hg : s.h.get r = some (.map es clk)) :
    ∃ es' lst, w.heap[l.blk]? = some (.map es' clk) ∧ lst.Perm es'.toList ∧ EsRel ι es lst ∧ es.Pairwise (fun a b => KeyNe a.1 b.1) ∧ (∀ e ∈ es'.toList, e.born < clk) ∧ (es'.toList.map (·.born)).Nodup := by
  obtain ⟨o', h1, h2⟩ := h.obj r l _ hi hg
  cases h2 with
  | map a1 a2 a3 a4 a5 => exact ⟨_, _, h1, a1, a2, a3, a4, a5⟩

theorem run_getObj_map {r : Nat} {es : Array MapEntry} {clk : Nat} (h : w.heap[r]? = some (.map es clk)) : (getObj r).run P w = .ok (.map es clk) w := by
  simp only [getObj, Sem.run, h]

theorem ok_lenMap {c : Call} {t k e : TypeId} {x : Operand} (ho : o.op = .call c) (hc : c.callee = .builtin .len) (ht : c.argTypes[0]? = some t) (ha : c.args.toList = [x])
    (hu : P.underlying t = some (.map k e)) (hx : opdOk x = true) : RunOk P o (lenR (.map k e) x) := by
  intro ι s w g ρ v hv hS hr
  have hrx : VRel ι (ev g x) (ρ x) := hr x (by simp [ho, Op.operands, Call.operands, hc, args_of ha]) hx
  have hrun : ∀ v, (Builtin.len_ c.argTypes o.type #[ρ x]).run P w = .ok v w → (execOp ρ o).run P w = .ok (.value v) w := by
    intro v h
    rw [call_builtin ho hc, args_of ha]
    simp [builtin, h]
  simp only [] at hv
  cases he : ev g x with
  | map r =>
    rw [he] at hrx
    cases r with
    | none =>
      simp only [he, Option.some.injEq] at hv; subst hv
      have e := hrx.nilmap_inv
      exact ⟨_, .int _ _, hrun _ (by simp [Builtin.len_, ht, run_underlying hu, e, goInt])⟩
    | some r =>
      simp only [he] at hv
      cases hg : s.h.get r with
      | none => simp [hg] at hv
      | some ob =>
        cases ob <;> simp only [hg] at hv <;> try (cases hv; done)
        rename_i es clk
        simp only [Option.some.injEq] at hv; subst hv
        obtain ⟨l, hi, e⟩ := hrx.map_inv
        obtain ⟨es', lst, h1, h2, h3, _, _, _⟩ := hS.mapAt hi hg
        refine ⟨_, .int _ _, hrun _ ?_⟩
        have hlen : es'.size = es.length := by rw [h3.length, h2.length_eq]; simp
        simp [Builtin.len_, ht, run_underlying hu, e, run_getObj_map h1, goInt, hlen]
  | _ => simp [he] at hv

end Go.AM
/- Maps keyed by pointers. -/
namespace Go.AM
variable {P : Program} {o : Oper} {ι : Inj} {s : S} {w w' : World}

theorem aloneB_spec {b : Nat} (h : aloneB P s b = true) : ∃ c n e st, s.h.get b = some (.blk ⟨c, n, e, none, st⟩) ∧ st < 2 ∧ isU8 P e = false := by
  unfold aloneB at h
  cases hb : s.blk? b with
  | none => simp [hb] at h
  | some x =>
    obtain ⟨c, n, e, p, st⟩ := x
    cases p with
    | some p => simp [hb] at h
    | none =>
      simp only [hb, Bool.and_eq_true, Nat.blt_eq, Bool.not_eq_true'] at h
      rw [S.blk?_eq] at hb
      exact ⟨c, n, e, st, hb, h.1, h.2⟩

/-- two such rows lie apart -/
theorem SRel.apartB (h : SRel P ι s w) {a b : Nat} {la lb : Loc} (ia : ι a = some la) (ib : ι b = some lb) (ha : aloneB P s a = true) (hb : aloneB P s b = true) (hne : a ≠ b) : la.blk ≠ lb.blk := by
  intro e
  obtain ⟨c1, n1, e1, st1, g1, q1, _⟩ := aloneB_spec ha
  obtain ⟨c2, n2, e2, st2, g2, q2, _⟩ := aloneB_spec hb
  rcases h.alias a b la lb _ _ hne ia ib e g1 g2 with x | x | x | x
  · simp only [Dead] at x; omega
  · simp only [Dead] at x; omega
  · simp [Par] at x
  · simp [Par] at x

/-- such a row in the model -/
theorem SRel.aloneAt (h : SRel P ι s w) {a : Nat} {l : Loc} (ia : ι a = some l) (ha : aloneB P s a = true) : ∃ cells e, w.heap[l.blk]? = some (.cells cells e (0, 0)) := by
  obtain ⟨c, n, e, st, g, q, u⟩ := aloneB_spec ha
  obtain ⟨cells, fr, h1, _, _, _, h5⟩ := h.row ia g q
  rcases h5 with rfl | ⟨_, h5⟩
  · exact ⟨cells, e, h1⟩
  · rw [u] at h5; cases h5

theorem run_equalPtr {kt : TypeId} (hk : ptrKey P kt = true) {x y : Addr} {cx cy : Array Value} {ex ey : TypeId} (hx : w.heap[x.block]? = some (.cells cx ex (0, 0))) (hy : w.heap[y.block]? = some (.cells cy ey (0, 0))) :
    (Op.equal kt (.pointer (some x)) (.pointer (some y))).run P w = .ok (decide (x = y)) w := by
  unfold ptrKey at hk
  cases hu : P.underlying kt with
  | none => simp [hu] at hk
  | some d =>
    cases d with
    | pointer el =>
      simp only [hu] at hk
      cases hs : szOf P el with
      | none => simp [hs] at hk
      | some n =>
        cases n with
        | zero => simp [hs] at hk
        | succ n =>
          have hfz : ∀ (a : Addr) (c : Array Value) (e : TypeId), w.heap[a.block]? = some (.cells c e (0, 0)) → w.frozen? a = false := by
            intro a c e h; simp [World.frozen?, h]
          have hsh : ∀ (a : Addr) (c : Array Value) (e : TypeId), w.heap[a.block]? = some (.cells c e (0, 0)) → w.shape? a.block = some (e, c.size) := by
            intro a c e h; simp [World.shape?, h]
          have hfx := hfz x cx ex hx
          have hfy := hfz y cy ey hy
          have hsx := hsh x cx ex hx
          have hsy := hsh y cy ey hy
          have hsame : (sameAddr x y).run P w = .ok (decide (x = y)) w := by
            unfold sameAddr
            by_cases hb : x.block = y.block
            · have : (x.block == y.block) = true := by simpa using hb
              simp only [this, if_true, Sem.run_pure]
              congr 1
            · have hbf : (x.block == y.block) = false := by simpa using hb
              have hne : decide (x = y) = false := by
                simp only [decide_eq_false_iff_not]
                intro e; exact hb (by rw [e])
              simp only [hbf, Bool.false_eq_true, if_false, hne, Sem.run_bind, run_frozen, hfx, hfy, Result.andThen_ok, Bool.and_false, noView, viewAt, run_shape, hsx, hsy, Option.isSome_some, if_true, Sem.run_pure, Option.isSome_none,
                mayBeOne, stringish]
              have hz : ∀ (a : Addr) (c : Array Value) (e : TypeId), w.heap[a.block]? = some (.cells c e (0, 0)) → w.frozen? { block := a.block, off := c.size } = false := by
                intro a c e h; simp [World.frozen?, h]
              simp only [hz x cx ex hx, hz y cy ey hy, Bool.false_and, Bool.or_false, Bool.false_eq_true, if_false, Sem.run_pure, Result.andThen_ok]
          have hsz : (sizeOf el).run P w = .ok (n + 1) w := run_sizeOf' hs w
          have heq : Op.equal kt (.pointer (some x)) (.pointer (some y)) = Op.equalIn (9999 + 1) kt (.pointer (some x)) (.pointer (some y)) := rfl
          rw [heq]
          generalize 9999 = dd
          simp only [Op.equalIn, Sem.run_bind, run_underlying hu, Result.andThen_ok, hsz]
          simpa using hsame
    | _ => simp [hu] at hk
/-- what stands of such a map -/
theorem SRel.pmapAt (h : SRel P ι s w) {r : Nat} {l : Loc} {es : List (Value × Value)} {clk : Nat} (hi : ι r = some l) (hg : s.h.get r = some (.pmap es clk)) :
    ∃ es' lst, w.heap[l.blk]? = some (.map es' clk) ∧ lst.Perm es'.toList ∧ EsRel ι es lst ∧ lst.Pairwise (fun a b => a.key ≠ b.key) ∧ (∀ e ∈ es'.toList, e.born < clk) ∧ (es'.toList.map (·.born)).Nodup := by
  obtain ⟨o', h1, h2⟩ := h.obj r l _ hi hg
  cases h2 with
  | pmap a b c d e f => exact ⟨_, _, h1, a, b, d, e, f⟩

theorem EsRel.memP {ι : Inj} : ∀ {es : List (Value × Value)} {l : List MapEntry}, EsRel ι es l → ∀ e ∈ l, ∃ p ∈ es, VRel ι p.1 e.key ∧ VRel ι p.2 e.val
  | _, _, .nil, p, h => by simp at h
  | _, _, .cons a b c, p, h => by
    rcases List.mem_cons.1 h with rfl | hm
    · exact ⟨(_, _), List.mem_cons_self, a, b⟩
    · obtain ⟨e, x, y⟩ := c.memP p hm; exact ⟨e, by simp [x], y⟩

theorem keysP_mem {b : Nat} : ∀ {es : List (Value × Value)}, keysP P s b es = true → ∀ q ∈ es, ∃ a, q.1 = .pointer (some a) ∧ (a.block = b ∨ aloneB P s a.block = true)
  | [], _, q, h => by simp at h
  | (k, v) :: es, hk, q, h => by
    cases k with
    | pointer a =>
      cases a with
      | none => simp [keysP] at hk
      | some a =>
        simp only [keysP, Bool.and_eq_true, Bool.or_eq_true, Nat.beq_eq] at hk
        rcases List.mem_cons.1 h with rfl | h
        · exact ⟨a, rfl, hk.1⟩
        · exact keysP_mem hk.2 q h
    | _ => simp [keysP] at hk

/-- a key's place in the model -/
theorem key_place (hS : SRel P ι s w) {a : Addr} {l : Loc} (hi : ι a.block = some l) (ha : aloneB P s a.block = true) {q : Value} {a' : Addr} (hq : q = .pointer (some a')) (hk : a'.block = a.block ∨ aloneB P s a'.block = true) {k' : Value} (hr : VRel ι q k') :
    ∃ y cy ey, k' = .pointer (some y) ∧ w.heap[y.block]? = some (.cells cy ey (0, 0)) ∧ ((⟨l.blk, l.base + a.off, none⟩ : Addr) = y ↔ a'.block = a.block ∧ a'.off = a.off) := by
  subst hq
  obtain ⟨b, off, sp⟩ := a'
  obtain ⟨l', h1, h2⟩ := hr.ptr_inv
  simp only at hk
  have hal : aloneB P s b = true := by rcases hk with e | e; · rw [e]; exact ha
                                       · exact e
  obtain ⟨cy, ey, h3⟩ := hS.aloneAt h1 hal
  refine ⟨_, cy, ey, h2, h3, ?_⟩
  constructor
  · intro e
    simp only [Addr.mk.injEq, and_true] at e
    by_cases hb : b = a.block
    · subst hb
      rw [hi] at h1; cases h1
      have := e.2
      simp only at this ⊢
      exact ⟨trivial, by omega⟩
    · exact absurd e.1 (hS.apartB hi h1 ha hal (Ne.symm hb))
  · rintro ⟨e1, e2⟩
    simp only at e1 e2
    subst e1 e2
    rw [hi] at h1; cases h1
    rfl

theorem findAsking_spec {kt : TypeId} {k : Value} : ∀ {l : List MapEntry} (i : Nat), (∀ e ∈ l, ∃ b : Bool, (Op.equal kt k e.key).run P w = .ok b w ∧ (b = true ↔ k = e.key)) →
    (∃ j e, l[j]? = some e ∧ e.key = k ∧ (Instr.findAsking kt k l i).run P w = .ok (some (i + j, e.val)) w) ∨ ((∀ e ∈ l, e.key ≠ k) ∧ (Instr.findAsking kt k l i).run P w = .ok none w)
  | [], i, _ => .inr ⟨by simp, rfl⟩
  | e :: l, i, h => by
    obtain ⟨b0, h1, h2⟩ := h e (by simp)
    simp only [Instr.findAsking, Sem.run_bind, h1, Result.andThen_ok]
    by_cases hk : k = e.key
    · refine .inl ⟨0, e, rfl, hk.symm, ?_⟩
      rw [if_pos (h2.2 hk)]; rfl
    · rw [if_neg (fun x => hk (h2.1 x))]
      rcases findAsking_spec (l := l) (i + 1) (fun e' he => h e' (by simp [he])) with ⟨j, e', a, b, c⟩ | ⟨a, b⟩
      · exact .inl ⟨j + 1, e', by simpa using a, b, by rw [c]; congr 3; omega⟩
      · refine .inr ⟨fun e' he => ?_, b⟩
        rcases List.mem_cons.1 he with rfl | hm
        · exact fun x => hk x.symm
        · exact a e' hm

/-- the model's search -/
theorem run_findKeyP {kt : TypeId} (hk : ptrKey P kt = true) {k : Value} {l : List MapEntry} (h : ∀ e ∈ l, ∃ b : Bool, (Op.equal kt k e.key).run P w = .ok b w ∧ (b = true ↔ k = e.key)) (hkp : ∃ x, k = .pointer (some x)) :
    (∃ j e, l[j]? = some e ∧ e.key = k ∧ (Instr.findKey kt k l).run P w = .ok (some (j, e.val)) w) ∨ ((∀ e ∈ l, e.key ≠ k) ∧ (Instr.findKey kt k l).run P w = .ok none w) := by
  have hu : ∃ el, P.underlying kt = some (.pointer el) := by
    unfold ptrKey at hk
    cases hu : P.underlying kt with
    | none => simp [hu] at hk
    | some d => cases d with
      | pointer el => exact ⟨el, rfl⟩
      | _ => simp [hu] at hk
  obtain ⟨el, hu⟩ := hu
  obtain ⟨x, rfl⟩ := hkp
  cases l with
  | nil => exact .inr ⟨by simp, by simp [Instr.findKey, run_underlying hu, Instr.findNow]⟩
  | cons e l =>
    have hn : Instr.findNow (.pointer el) (.pointer (some x)) (e :: l) 0 = none := by simp [Instr.findNow, Instr.sameNow]
    have := findAsking_spec (P := P) (w := w) (kt := kt) (k := .pointer (some x)) (l := e :: l) 0 h
    simp only [Instr.findKey, Sem.run_bind, run_underlying hu, Result.andThen_ok, hn]
    simpa using this

theorem run_equalNil {kt : TypeId} (hk : ptrKey P kt = true) (y : Addr) (w : World) : (Op.equal kt (.pointer none) (.pointer (some y))).run P w = .ok false w := by
  unfold ptrKey at hk
  cases hu : P.underlying kt with
  | none => simp [hu] at hk
  | some d => cases d with
    | pointer el =>
      have heq : Op.equal kt (.pointer none) (.pointer (some y)) = Op.equalIn (9999 + 1) kt (.pointer none) (.pointer (some y)) := rfl
      rw [heq]
      generalize 9999 = dd
      simp only [Op.equalIn, Sem.run_bind, run_underlying hu, Result.andThen_ok]
      rfl
    | _ => simp [hu] at hk
theorem run_findKeyNil {kt : TypeId} (hk : ptrKey P kt = true) {l : List MapEntry} (h : ∀ e ∈ l, ∃ y, e.key = .pointer (some y)) : (Instr.findKey kt (.pointer none) l).run P w = .ok none w := by
  have hu : ∃ el, P.underlying kt = some (.pointer el) := by
    unfold ptrKey at hk
    cases hu : P.underlying kt with
    | none => simp [hu] at hk
    | some d => cases d with
      | pointer el => exact ⟨el, rfl⟩
      | _ => simp [hu] at hk
  obtain ⟨el, hu⟩ := hu
  cases l with
  | nil => simp [Instr.findKey, run_underlying hu, Instr.findNow]
  | cons e l =>
    have hn : Instr.findNow (.pointer el) (.pointer none) (e :: l) 0 = none := by
      obtain ⟨y, hy⟩ := h e (by simp)
      simp [Instr.findNow, Instr.sameNow]
    have := findAsking_spec (P := P) (w := w) (kt := kt) (k := .pointer none) (l := e :: l) 0 (fun e' he' => by
      obtain ⟨y, hy⟩ := h e' he'
      exact ⟨false, by rw [hy]; exact run_equalNil hk y w, by simp [hy]⟩)
    simp only [Instr.findKey, Sem.run_bind, run_underlying hu, Result.andThen_ok, hn]
    rcases this with ⟨j, e', a, b, _⟩ | ⟨_, b⟩
    · obtain ⟨y, hy⟩ := h e' (List.mem_of_getElem? a)
      rw [hy] at b; cases b
    · exact b
theorem run_checkKeyNil {t : TypeId} (hk : ptrKey P t = true) (b : Bool) (n : Nat) (w : World) : (Instr.checkKey b (n + 1) t (.pointer none)).run P w = .ok () w := by
  unfold ptrKey at hk
  cases hu : P.underlying t with
  | none => simp [hu] at hk
  | some d => cases d with
    | pointer el => simp only [Instr.checkKey, Sem.run_bind, run_underlying hu, Result.andThen_ok]; rfl
    | _ => simp [hu] at hk
theorem run_checkKeyP {t : TypeId} (hk : ptrKey P t = true) (b : Bool) (n : Nat) (x : Addr) (w : World) : (Instr.checkKey b (n + 1) t (.pointer (some x))).run P w = .ok () w := by
  unfold ptrKey at hk
  cases hu : P.underlying t with
  | none => simp [hu] at hk
  | some d => cases d with
    | pointer el => simp only [Instr.checkKey, Sem.run_bind, run_underlying hu, Result.andThen_ok]; rfl
    | _ => simp [hu] at hk

theorem findP_spec {a : Addr} : ∀ {es : List (Value × Value)} {r : Option Value}, findP a es = r → (∀ q ∈ es, ∃ a', q.1 = .pointer (some a')) →
    (∃ v a', r = some v ∧ (.pointer (some a'), v) ∈ es ∧ a'.block = a.block ∧ a'.off = a.off) ∨ (r = none ∧ ∀ q ∈ es, ∀ a', q.1 = .pointer (some a') → ¬ (a'.block = a.block ∧ a'.off = a.off))
  | [], r, h, _ => by simp only [findP] at h; exact .inr ⟨h.symm, by simp⟩
  | (k, v) :: es, r, h, hk => by
    obtain ⟨a', ha'⟩ := hk (k, v) (by simp)
    simp only at ha'; subst ha'
    simp only [findP] at h
    cases hb : Nat.beq a'.block a.block && Nat.beq a'.off a.off with
    | true =>
      rw [hb] at h; simp only [cond_true] at h
      simp only [Bool.and_eq_true, Nat.beq_eq] at hb
      exact .inl ⟨v, a', h.symm, by simp, hb.1, hb.2⟩
    | false =>
      rw [hb] at h; simp only [cond_false] at h
      rcases findP_spec h (fun q hq => hk q (by simp [hq])) with ⟨u, a2, x1, x2, x3⟩ | ⟨x1, x2⟩
      · exact .inl ⟨u, a2, x1, by simp [x2], x3⟩
      · refine .inr ⟨x1, fun q hq a3 e => ?_⟩
        rcases List.mem_cons.1 hq with rfl | hm
        · simp only [Value.pointer.injEq, Option.some.injEq] at e; subst e
          rintro ⟨y1, y2⟩
          rw [y1, y2, Nat.beq_refl, Nat.beq_refl] at hb; cases hb
        · exact x2 q hm a3 e

/-- the entry of a key -/
theorem find_rel (hS : SRel P ι s w) {kt : TypeId} (hkt : ptrKey P kt = true) {a : Addr} {l : Loc} (hi : ι a.block = some l) (ha : aloneB P s a.block = true) {es : List (Value × Value)} (hks : keysP P s a.block es = true)
    {es' lst : List MapEntry} (hp : lst.Perm es') (hr : EsRel ι es lst) (hpw : lst.Pairwise (fun a b => a.key ≠ b.key)) :
    (∃ j e, es'[j]? = some e ∧ e.key = .pointer (some ⟨l.blk, l.base + a.off, none⟩) ∧ (Instr.findKey kt (.pointer (some ⟨l.blk, l.base + a.off, none⟩)) es').run P w = .ok (some (j, e.val)) w) ∨
    ((∀ e ∈ es', e.key ≠ .pointer (some ⟨l.blk, l.base + a.off, none⟩)) ∧ (Instr.findKey kt (.pointer (some ⟨l.blk, l.base + a.off, none⟩)) es').run P w = .ok none w) := by
  refine run_findKeyP hkt (fun e he => ?_) ⟨_, rfl⟩
  obtain ⟨q, hq, r1, _⟩ := hr.memP e (hp.mem_iff.2 he)
  obtain ⟨a', e1, e2⟩ := keysP_mem hks q hq
  obtain ⟨y, cy, ey, y1, y2, _⟩ := key_place hS hi ha e1 e2 r1
  obtain ⟨cx, ex, h3⟩ := hS.aloneAt hi ha
  rw [y1]
  exact ⟨_, run_equalPtr hkt (x := ⟨l.blk, l.base + a.off, none⟩) h3 y2, by simp⟩

theorem ok_lookP {t kt et : TypeId} {x k : Operand} {ok : Bool} {z : Value} (ho : o.op = .lookup t x k ok) (hu : P.underlying t = some (.map kt et)) (hz : zeroOf P et = some z) (hx : opdOk x = true) (hkx : opdOk k = true) :
    RunOk P o (lookP P kt z x k ok) := by
  unfold lookP
  cases hc : plainV z && ptrKey P kt with
  | false => exact RunOk.no _ _
  | true =>
    simp only [Bool.and_eq_true] at hc
    obtain ⟨hp, hkt⟩ := hc
    intro ι s w g ρ v hv hS hr
    have hrx := hr x (by simp [ho, Op.operands]) hx
    have hrk := hr k (by simp [ho, Op.operands]) hkx
    simp only [] at hv
    have hres : ∀ (u u' : Value) (b : Bool), VRel ι u u' → VRel ι (bif ok then .tuple #[u, .bool b] else u) (if ok = true then .tuple #[u', .bool b] else u') := by
      intro u u' b hu
      cases ok with
      | true => exact .tuple (.cons hu (.cons (.bool _) .nil))
      | false => exact hu
    cases hek : ev g k with
    | pointer a =>
      cases a with
      | none =>
        cases he : ev g x with
        | map r =>
          cases r with
          | none => simp [hek, he] at hv
          | some r =>
            simp only [hek, he] at hv
            rw [hek] at hrk; rw [he] at hrx
            have ek := hrk.nilptr_inv
            cases hg : s.h.get r with
            | none => simp [hg] at hv
            | some ob =>
              cases ob with
              | pmap es clk =>
                simp only [hg, Option.some.injEq] at hv; subst hv
                obtain ⟨l, hi, e⟩ := hrx.map_inv
                obtain ⟨o', h1, h2⟩ := hS.obj r l _ hi hg
                cases h2 with
                | pmap q1 q2 q3 q4 q5 q6 =>
                  rename_i es' lst
                  have hkeys : ∀ e ∈ es'.toList, ∃ y, e.key = .pointer (some y) := by
                    intro e he
                    obtain ⟨q, hq, r1, _⟩ := q2.memP e (q1.mem_iff.2 he)
                    obtain ⟨a, ha⟩ := q3 q hq
                    rw [ha] at r1
                    obtain ⟨ll, _, e2⟩ := r1.ptr_inv
                    exact ⟨_, e2⟩
                  refine ⟨_, hres z z false (.plainV hp), ?_⟩
                  simp only [execOp, ho, e, ek, Instr.lookup, Sem.run_bind, run_underlying hu, Result.andThen_ok, run_getObj_map h1, Sem.run_pure, run_checkKeyNil hkt, run_findKeyNil hkt hkeys, run_zeroValue' hz]
              | _ => simp [hg] at hv
        | _ => simp [hek, he] at hv
      | some a =>
        cases he : ev g x with
        | map r =>
          cases r with
          | none => simp [hek, he] at hv
          | some r =>
            simp only [hek, he] at hv
            rw [hek] at hrk; rw [he] at hrx
            cases hg : s.h.get r with
            | none => simp [hg] at hv
            | some ob =>
              cases ob with
              | pmap es clk =>
                simp only [hg] at hv
                cases hcd : aloneB P s a.block && keysP P s a.block es with
                | false => rw [hcd] at hv; cases hv
                | true =>
                  rw [hcd] at hv; simp only [cond_true] at hv
                  simp only [Bool.and_eq_true] at hcd
                  obtain ⟨l, hi, e⟩ := hrx.map_inv
                  obtain ⟨es', lst, h1, h2, h3, h4, _, _⟩ := hS.pmapAt hi hg
                  obtain ⟨ab, aoff, asp⟩ := a
                  obtain ⟨la, hia, ek⟩ := hrk.ptr_inv
                  simp only at hcd
                  have hkp : ∀ q ∈ es, ∃ a', q.1 = .pointer (some a') := fun q hq => let ⟨a', e1, _⟩ := keysP_mem hcd.2 q hq; ⟨a', e1⟩
                  have hfr := find_rel hS hkt (a := ⟨ab, aoff, asp⟩) hia hcd.1 hcd.2 h2 h3 h4
                  simp only at hfr
                  have place : ∀ e ∈ lst, ∀ q ∈ es, VRel ι q.1 e.key → (e.key = .pointer (some ⟨la.blk, la.base + aoff, none⟩) ↔ ∃ a', q.1 = .pointer (some a') ∧ a'.block = ab ∧ a'.off = aoff) := by
                    intro e _ q hq r1
                    obtain ⟨a', e1, e2⟩ := keysP_mem hcd.2 q hq
                    obtain ⟨y, cy, ey, y1, y2, y3⟩ := key_place hS (a := ⟨ab, aoff, asp⟩) hia hcd.1 e1 e2 r1
                    simp only at y3
                    rw [y1]
                    constructor
                    · intro h; cases h; exact ⟨a', e1, y3.1 rfl⟩
                    · rintro ⟨a2, e3, e4⟩
                      rw [e1] at e3; cases e3
                      rw [y3.2 e4]
                  generalize hfp : findP ⟨ab, aoff, asp⟩ es = fr at hv
                  rcases findP_spec hfp hkp with ⟨u, a', rfl, hmem, y1, y2⟩ | ⟨rfl, hno⟩
                  · simp only [Option.some.injEq] at hv; subst hv
                    -- its entry
                    have hent : ∃ e ∈ lst, VRel ι (.pointer (some a')) e.key ∧ VRel ι u e.val := by
                      have : ∀ {es : List (Value × Value)} {l : List MapEntry}, EsRel ι es l → ∀ p ∈ es, ∃ e ∈ l, VRel ι p.1 e.key ∧ VRel ι p.2 e.val := by
                        intro es l hh
                        induction hh with
                        | nil => intro p hp; simp at hp
                        | cons a b c ih =>
                          intro p hp
                          rcases List.mem_cons.1 hp with rfl | hm
                          · exact ⟨_, by simp, a, b⟩
                          · obtain ⟨e, x, y⟩ := ih p hm; exact ⟨e, by simp [x], y⟩
                      exact this h3 _ hmem
                    obtain ⟨e0, he0, rk, rv⟩ := hent
                    have hk0 := (place e0 he0 _ hmem rk).2 ⟨a', rfl, y1, y2⟩
                    rcases hfr with ⟨j, e1, q1, q2, hrun⟩ | ⟨hne, _⟩
                    · have he1 : e1 ∈ lst := h2.mem_iff.2 (List.mem_of_getElem? q1)
                      have : e1 = e0 := by
                        have aux : ∀ {l : List MapEntry}, l.Pairwise (fun a b => a.key ≠ b.key) → ∀ a ∈ l, ∀ b ∈ l, a.key = b.key → a = b := by
                          intro l
                          induction l with
                          | nil => intro _ a ha; simp at ha
                          | cons c l ih =>
                            intro hpw a ha b hb hab
                            rw [List.pairwise_cons] at hpw
                            rcases List.mem_cons.1 ha with ha | ha
                            · rcases List.mem_cons.1 hb with hb | hb
                              · rw [ha, hb]
                              · exact absurd (by rw [← ha]; exact hab) (hpw.1 b hb)
                            · rcases List.mem_cons.1 hb with hb | hb
                              · exact absurd (by rw [← hb]; exact hab.symm) (hpw.1 a ha)
                              · exact ih hpw.2 a ha b hb hab
                        exact aux h4 e1 he1 e0 he0 (by rw [q2, hk0])
                      subst this
                      refine ⟨_, hres _ _ true rv, ?_⟩
                      simp only [execOp, ho, e, ek, Instr.lookup, Sem.run_bind, run_underlying hu, Result.andThen_ok, run_getObj_map h1, Sem.run_pure, run_checkKeyP hkt, hrun]
                    · exact absurd hk0 (hne e0 (h2.mem_iff.1 he0))
                  · simp only [Option.some.injEq] at hv; subst hv
                    rcases hfr with ⟨j, e1, q1, q2, hrun⟩ | ⟨_, hrun⟩
                    · exfalso
                      have he1 : e1 ∈ lst := h2.mem_iff.2 (List.mem_of_getElem? q1)
                      obtain ⟨q, hq, r1, _⟩ := h3.memP e1 he1
                      obtain ⟨a2, x1, x2⟩ := (place e1 he1 q hq r1).1 q2
                      exact hno q hq a2 x1 x2
                    · refine ⟨_, hres z z false (.plainV hp), ?_⟩
                      simp only [execOp, ho, e, ek, Instr.lookup, Sem.run_bind, run_underlying hu, Result.andThen_ok, run_getObj_map h1, Sem.run_pure, run_checkKeyP hkt, hrun, run_zeroValue' hz]
              | _ => simp [hg] at hv
        | _ => simp [hek, he] at hv
    | _ => simp [hek] at hv

end Go.AM
/- Maps: look-ups and stores. -/
namespace Go.AM
variable {P : Program} {o : Oper} {ι : Inj} {s : S} {w : World}

def descOf : KeyKind → TypeDesc
  | .int k => .int k
  | .str => .string
theorem keyKind_eq {t : TypeId} {kk : KeyKind} (h : keyKind P t = some kk) : P.underlying t = some (descOf kk) := by
  unfold keyKind at h
  cases hu : P.underlying t with
  | none => simp [hu] at h
  | some d => cases d <;> simp only [hu] at h <;> first | (cases h; done) | (cases h; rfl)

theorem bytes_beq (a b : ByteArray) : (a == b) = decide (a = b) := by
  show (a.data == b.data) = decide (a = b)
  by_cases h : a = b
  · subst h; simp
  · have : ¬ a.data = b.data := fun e => h (ByteArray.ext e)
    simp [h, this]
theorem bytes_eq_iff (a b : ByteArray) : a = b ↔ a.data.toList = b.data.toList := by
  constructor
  · intro h; rw [h]
  · intro h; apply ByteArray.ext; exact Array.toList_inj.1 h

theorem key_spec {kk : KeyKind} {x y : Value} (hx : keyOk kk x = true) (hy : keyOk kk y = true) :
    ∃ b, Instr.sameNow (descOf kk) x y = some b ∧ keyEq kk x y = some b ∧ (b = true ↔ x = y) ∧ (b = false → KeyNe x y) := by
  cases kk with
  | int k =>
    cases x <;> simp only [keyOk] at hx <;> try (cases hx; done)
    cases y <;> simp only [keyOk] at hy <;> try (cases hy; done)
    have e1 := kindEq_eq hx; have e2 := kindEq_eq hy
    subst e1; subst e2
    rename_i m n
    refine ⟨decide (m = n), ?_, ?_, ?_, ?_⟩
    · simp [Instr.sameNow, descOf]; rfl
    · simp [keyEq, hx]
    · simp
    · intro h; exact ⟨rfl, by simpa using h⟩
  | str =>
    cases x <;> simp only [keyOk] at hx <;> try (cases hx; done)
    cases y <;> simp only [keyOk] at hy <;> try (cases hy; done)
    rename_i a b
    refine ⟨decide (a = b), ?_, ?_, ?_, ?_⟩
    · simp [Instr.sameNow, descOf, bytes_beq]
    · simp only [keyEq, bytesEq_eq, Option.some.injEq]
      by_cases h : a = b
      · subst h; simp
      · have : ¬ a.data = b.data := fun e => h (ByteArray.ext e)
        simp [h, this]
    · simp
    · intro h; exact fun e => by simp [e] at h

theorem keyOk_vrel {kk : KeyKind} {x x' : Value} (h : keyOk kk x = true) (r : VRel ι x x') : x' = x := by
  cases kk with
  | int k => cases x <;> simp only [keyOk] at h <;> try (cases h; done)
             exact r.int_inv
  | str => cases x <;> simp only [keyOk] at h <;> try (cases h; done)
           exact r.string_inv
theorem keyEq_ok {kk : KeyKind} {x y : Value} {b : Bool} (h : keyEq kk x y = some b) : keyOk kk x = true ∧ keyOk kk y = true := by
  unfold keyEq at h
  split at h
  · rename_i k a m b' n
    cases hk : kindEq k a && kindEq k b' with
    | false => rw [hk] at h; cases h
    | true => simp only [Bool.and_eq_true] at hk; simp [keyOk, hk]
  · exact ⟨rfl, rfl⟩
  · cases h
theorem KeyNe.ok {kk : KeyKind} {x y : Value} (h : KeyNe x y) : keyOk kk x = keyOk kk y := by
  unfold KeyNe at h
  split at h
  · obtain ⟨rfl, _⟩ := h; cases kk <;> rfl
  · cases kk <;> rfl
  · exact h.elim
theorem KeyNe.ne {x y : Value} (h : KeyNe x y) : x ≠ y := by
  unfold KeyNe at h
  split at h
  · intro e; cases e; exact h.2 rfl
  · intro e; cases e; exact h rfl
  · exact h.elim

theorem keys_ok {kk : KeyKind} {es : List (Value × Value)} (hp : es.Pairwise (fun a b => KeyNe a.1 b.1)) (h : ∀ p l, es = p :: l → keyOk kk p.1 = true) :
    ∀ p ∈ es, keyOk kk p.1 = true := by
  cases es with
  | nil => simp
  | cons q l =>
    intro p hp'
    rcases List.mem_cons.1 hp' with rfl | hm
    · exact h _ _ rfl
    · rw [List.pairwise_cons] at hp
      have := (hp.1 p hm).ok (kk := kk)
      rw [← this]; exact h _ _ rfl

/-- what a look-up finds -/
theorem findK_spec {kk : KeyKind} {k : Value} : ∀ {es : List (Value × Value)} {r : Option Value}, findK kk k es = some r → (∀ p ∈ es, keyOk kk p.1 = true) → keyOk kk k = true →
    (∃ v, r = some v ∧ (k, v) ∈ es) ∨ (r = none ∧ ∀ p ∈ es, p.1 ≠ k)
  | [], r, h, _, _ => by simp only [findK, Option.some.injEq] at h; subst h; exact .inr ⟨rfl, by simp⟩
  | (k', v) :: es, r, h, hk, h0 => by
    obtain ⟨b, _, e2, e3, _⟩ := key_spec h0 (hk (k', v) (by simp))
    simp only [findK, e2] at h
    cases b with
    | true =>
      simp only [Option.some.injEq] at h; subst h
      have := e3.1 rfl
      subst this
      exact .inl ⟨v, rfl, by simp⟩
    | false =>
      simp only [] at h
      rcases findK_spec h (fun p hp => hk p (by simp [hp])) h0 with ⟨u, a, b⟩ | ⟨a, b⟩
      · exact .inl ⟨u, a, by simp [b]⟩
      · refine .inr ⟨a, fun p hp => ?_⟩
        rcases List.mem_cons.1 hp with rfl | hm
        · intro e; have := e3.2 e.symm; cases this
        · exact b p hm
theorem findK_first {kk : KeyKind} {k : Value} {es : List (Value × Value)} {r : Option Value} (h : findK kk k es = some r) : ∀ p l, es = p :: l → keyOk kk p.1 = true := by
  intro p l e
  subst e
  obtain ⟨k', v⟩ := p
  simp only [findK] at h
  cases he : keyEq kk k k' with
  | none => simp [he] at h
  | some b => exact (keyEq_ok he).2

theorem EsRel.mem {ι : Inj} : ∀ {es : List (Value × Value)} {l : List MapEntry}, EsRel ι es l → ∀ p ∈ es, ∃ e ∈ l, VRel ι p.1 e.key ∧ VRel ι p.2 e.val
  | _, _, .nil, p, h => by simp at h
  | _, _, .cons a b c, p, h => by
    rcases List.mem_cons.1 h with rfl | hm
    · exact ⟨_, by simp, a, b⟩
    · obtain ⟨e, x, y⟩ := c.mem p hm; exact ⟨e, by simp [x], y⟩
theorem EsRel.mem' {ι : Inj} : ∀ {es : List (Value × Value)} {l : List MapEntry}, EsRel ι es l → ∀ e ∈ l, ∃ p ∈ es, VRel ι p.1 e.key ∧ VRel ι p.2 e.val
  | _, _, .nil, p, h => by simp at h
  | _, _, .cons a b c, p, h => by
    rcases List.mem_cons.1 h with rfl | hm
    · exact ⟨(_, _), List.mem_cons_self, a, b⟩
    · obtain ⟨e, x, y⟩ := c.mem' p hm; exact ⟨e, by simp [x], y⟩

theorem findNow_spec {d : TypeDesc} {k : Value} : ∀ {l : List MapEntry} (i : Nat), (∀ e ∈ l, ∃ b, Instr.sameNow d k e.key = some b ∧ (b = true ↔ k = e.key)) →
    (∃ j e, l[j]? = some e ∧ e.key = k ∧ Instr.findNow d k l i = some (some (i + j, e.val))) ∨ ((∀ e ∈ l, e.key ≠ k) ∧ Instr.findNow d k l i = some none)
  | [], i, _ => .inr ⟨by simp, rfl⟩
  | e :: l, i, h => by
    obtain ⟨b, h1, h2⟩ := h e (by simp)
    simp only [Instr.findNow, h1]
    cases b with
    | true => exact .inl ⟨0, e, rfl, (h2.1 rfl).symm, rfl⟩
    | false =>
      simp only []
      rcases findNow_spec (l := l) (i + 1) (fun e' he => h e' (by simp [he])) with ⟨j, e', a, b, c⟩ | ⟨a, b⟩
      · exact .inl ⟨j + 1, e', by simpa using a, b, by rw [c]; congr 3; omega⟩
      · refine .inr ⟨fun e' he => ?_, b⟩
        rcases List.mem_cons.1 he with rfl | hm
        · intro x; have := h2.2 x.symm; cases this
        · exact a e' hm

theorem run_checkKey {t : TypeId} {kk : KeyKind} (hk : keyKind P t = some kk) (b : Bool) (n : Nat) (x : Value) (hx : keyOk kk x = true) (w : World) :
    (Instr.checkKey b (n + 1) t x).run P w = .ok () w := by
  have hu := keyKind_eq hk
  simp only [Instr.checkKey, Sem.run_bind, run_underlying hu, Result.andThen_ok]
  cases kk with
  | int k => cases x <;> simp only [keyOk] at hx <;> first | (cases hx; done) | rfl
  | str => cases x <;> simp only [keyOk] at hx <;> first | (cases hx; done) | rfl

/-- the model's search, over the entries as they lie -/
theorem run_findKey {t : TypeId} {kk : KeyKind} (hk : keyKind P t = some kk) {k : Value} (hkk : keyOk kk k = true) {es : List (Value × Value)} {lst es' : List MapEntry} (hp : lst.Perm es') (hr : EsRel ι es lst)
    (hpw : es.Pairwise (fun a b => KeyNe a.1 b.1)) (hks : ∀ p ∈ es, keyOk kk p.1 = true) (w : World) :
    (∃ v j e, (k, v) ∈ es ∧ es'[j]? = some e ∧ e.key = k ∧ VRel ι v e.val ∧ (Instr.findKey t k es').run P w = .ok (some (j, e.val)) w) ∨
    ((∀ p ∈ es, p.1 ≠ k) ∧ (∀ e ∈ es', e.key ≠ k) ∧ (Instr.findKey t k es').run P w = .ok none w) := by
  have hu := keyKind_eq hk
  have hall : ∀ e ∈ es', ∃ b, Instr.sameNow (descOf kk) k e.key = some b ∧ (b = true ↔ k = e.key) := by
    intro e he
    obtain ⟨p, hm, r1, _⟩ := hr.mem' e (hp.mem_iff.2 he)
    have hko := hks p hm
    rw [keyOk_vrel hko r1]
    obtain ⟨b, a1, _, a3, _⟩ := key_spec hkk hko
    exact ⟨b, a1, a3⟩
  rcases findNow_spec 0 hall with ⟨j, e, a, b, c⟩ | ⟨a, b⟩
  · obtain ⟨p, hm, r1, r2⟩ := hr.mem' e (hp.mem_iff.2 (List.mem_of_getElem? a))
    have hko := hks p hm
    have := keyOk_vrel hko r1
    refine .inl ⟨p.2, j, e, ?_, a, b, r2, ?_⟩
    · rw [← b, this]; exact hm
    · simp only [Instr.findKey, Sem.run_bind, run_underlying hu, Result.andThen_ok, c, Nat.zero_add, Sem.run_pure]
  · refine .inr ⟨fun p hm => ?_, a, ?_⟩
    · obtain ⟨e, he, r1, _⟩ := hr.mem p hm
      have := keyOk_vrel (hks p hm) r1
      rw [← this]; exact a e (hp.mem_iff.1 he)
    · simp only [Instr.findKey, Sem.run_bind, run_underlying hu, Result.andThen_ok, b, Sem.run_pure]

theorem pair_unique {es : List (Value × Value)} (hpw : es.Pairwise (fun a b => KeyNe a.1 b.1)) {k v v' : Value} (h : (k, v) ∈ es) (h' : (k, v') ∈ es) : v = v' := by
  induction es with
  | nil => simp at h
  | cons p l ih =>
    rw [List.pairwise_cons] at hpw
    rcases List.mem_cons.1 h with e1 | h1
    · rcases List.mem_cons.1 h' with e2 | h2
      · rw [← e1] at e2; cases e2; rfl
      · rw [← e1] at hpw; exact absurd rfl (hpw.1 _ h2).ne
    · rcases List.mem_cons.1 h' with e2 | h2
      · rw [← e2] at hpw; exact absurd rfl (hpw.1 _ h1).ne
      · exact ih hpw.2 h1 h2

theorem ok_lookup {t : TypeId} {x k : Operand} {ok : Bool} (ho : o.op = .lookup t x k ok) : RunOk P o (cr P (.lookup t x k ok)) := by
  simp only [cr]
  cases hx : opdOk x && opdOk k with
  | false => exact RunOk.no _ _
  | true =>
    simp only [Bool.and_eq_true] at hx
    simp only [cond_true]
    cases hu : P.underlying t with
    | none => exact RunOk.no _ _
    | some d =>
      cases d with
      | map kt et =>
        simp only []
        cases hkk : keyKind P kt with
        | none =>
          cases hz : zeroOf P et with
          | none => exact RunOk.no _ _
          | some z => exact ok_lookP ho hu hz hx.1 hx.2
        | some kk =>
          cases hz : zeroOf P et with
          | none => exact RunOk.no _ _
          | some z =>
            simp only []
            cases hp : plainV z with
            | false => exact RunOk.no _ _
            | true =>
              intro ι s w g ρ v hv hS hr
              have hrx := hr x (by simp [ho, Op.operands]) hx.1
              have hrk := hr k (by simp [ho, Op.operands]) hx.2
              simp only [] at hv
              cases hko : keyOk kk (ev g k) with
              | false => rw [hko] at hv; cases hv
              | true =>
                rw [hko] at hv; simp only [cond_true] at hv
                have ek := keyOk_vrel hko hrk
                have hres : ∀ (u u' : Value) (b : Bool), VRel ι u u' → VRel ι (bif ok then .tuple #[u, .bool b] else u) (if ok = true then .tuple #[u', .bool b] else u') := by
                  intro u u' b hu
                  cases ok with
                  | true => exact .tuple (.cons hu (.cons (.bool _) .nil))
                  | false => exact hu
                cases he : ev g x with
                | map r =>
                  rw [he] at hrx
                  cases r with
                  | none =>
                    simp only [he, Option.some.injEq] at hv; subst hv
                    have e := hrx.nilmap_inv
                    refine ⟨_, hres z z false (.plainV hp), ?_⟩
                    simp only [execOp, ho, e, ek, Instr.lookup, Sem.run_bind, run_underlying hu, Result.andThen_ok, Sem.run_pure, run_checkKey hkk _ _ _ hko, Instr.findKey, run_underlying (keyKind_eq hkk),
                      Instr.findNow, run_zeroValue' hz]
                  | some r =>
                    simp only [he] at hv
                    cases hg : s.h.get r with
                    | none => simp [hg] at hv
                    | some ob =>
                      cases ob <;> simp only [hg] at hv <;> try (cases hv; done)
                      rename_i es clk
                      obtain ⟨l, hi, e⟩ := hrx.map_inv
                      obtain ⟨es', lst, h1, h2, h3, h4, _, _⟩ := hS.mapAt hi hg
                      cases hf : findK kk (ev g k) es with
                      | none => simp [hf] at hv
                      | some r' =>
                        have hks := keys_ok (kk := kk) h4 (findK_first hf)
                        have hkf := run_findKey hkk hko h2 h3 h4 hks w
                        simp only [hf] at hv
                        rcases findK_spec hf hks hko with ⟨u, hru, hmem⟩ | ⟨hru, hno⟩
                        · subst hru
                          simp only [Option.some.injEq] at hv; subst hv
                          rcases hkf with ⟨v2, j, e2, hm2, _, _, hv2, hrun⟩ | ⟨hn, _, _⟩
                          · have := pair_unique h4 hmem hm2; subst this
                            refine ⟨_, hres _ _ true hv2, ?_⟩
                            simp only [execOp, ho, e, ek, Instr.lookup, Sem.run_bind, run_underlying hu, Result.andThen_ok, run_getObj_map h1, Sem.run_pure, run_checkKey hkk _ _ _ hko, hrun]
                          · exact absurd rfl (hn _ hmem)
                        · subst hru
                          simp only [Option.some.injEq] at hv; subst hv
                          rcases hkf with ⟨v2, j, e2, hm2, _, _, hv2, hrun⟩ | ⟨_, _, hrun⟩
                          · exact absurd rfl (hno _ hm2)
                          · refine ⟨_, hres z z false (.plainV hp), ?_⟩
                            simp only [execOp, ho, e, ek, Instr.lookup, Sem.run_bind, run_underlying hu, Result.andThen_ok, run_getObj_map h1, Sem.run_pure, run_checkKey hkk _ _ _ hko, hrun, run_zeroValue' hz]
                | _ => simp [he] at hv
      | _ => exact RunOk.no _ _

end Go.AM
/- Operations that make memory; conversions. -/
namespace Go.AM
variable {P : Program} {o : Oper} {ι : Inj} {s : S} {w : World}

theorem WPush.mk' (w : World) (o : Obj) : WPush w { w with heap := w.heap.push o } o :=
  ⟨by simp, fun c hc => by simp [Array.getElem?_push, Nat.ne_of_lt hc], by simp, rfl, rfl, rfl⟩
theorem WPush.mkD (w : World) (o : Obj) (d : Nat) : WPush w { w with heap := w.heap.push o, drawn := d } o :=
  ⟨by simp, fun c hc => by simp [Array.getElem?_push, Nat.ne_of_lt hc], by simp, rfl, rfl, rfl⟩

theorem newB_rel {ι : Inj} {e : TypeId} {cs : List Value} {cells : Array Value} {fr : Nat × Nat} {top : Nat} (k : Nat) (h : VRelL ι cs (cells.toList.take cs.length)) (hle : cs.length ≤ cells.size) (ht : cells.size = top)
    (hfr : FrOk P e top fr) : ORel P ι ⟨k, 0, top⟩ (newB e cs) (.cells cells e fr) := by
  refine .blk ht (by simp; omega) ?_ hfr
  intro i v hi hn
  rw [T.get_ofList] at hi
  simp only [Nat.zero_le, true_and, Nat.zero_add] at hi
  rw [if_pos hn] at hi
  simp only [Nat.sub_zero] at hi
  obtain ⟨v', h1, h2⟩ := h.get hi
  rw [List.getElem?_take, if_pos hn, Array.getElem?_toList] at h1
  exact ⟨v', by simpa using h1, h2⟩
theorem newB_rel' {ι : Inj} {e : TypeId} {cs : List Value} {cells : Array Value} (k : Nat) (h : VRelL ι cs cells.toList) : ORel P ι ⟨k, 0, cells.size⟩ (newB e cs) (.cells cells e) := by
  have hl := h.length
  simp only [Array.length_toList] at hl
  refine newB_rel k ?_ (by omega) rfl (.inl rfl)
  rw [List.take_of_length_le (by simp; omega)]; exact h
theorem newB_par (e : TypeId) (cs : List Value) (p : Nat) : ¬ Par (newB e cs) p := by simp [Par, newB]

theorem ok_alloc {e : TypeId} (ho : o.op = .alloc e) : RunOk P o (cr P (.alloc e)) := by
  simp only [cr]
  cases hz : zeroOf P e with
  | none => exact RunOk.no _ _
  | some z =>
    simp only []
    cases hp : plainV z with
    | false => exact RunOk.no _ _
    | true =>
      intro ι g ρ ob mk hv hr
      simp only [Option.some.injEq, Prod.mk.injEq] at hv
      obtain ⟨rfl, rfl⟩ := hv
      refine ⟨newB_par _ _, fun w => ⟨z.cells.size, .cells z.cells e, _, .pointer (some ⟨w.heap.size, 0, none⟩), WPush.mk' w _, ?_, ?_⟩⟩
      · simp [execOp, ho, Instr.alloc, run_zeroValue' hz, newVar, newRow]
      · intro ι' b hx hb
        refine ⟨newB_rel' _ ?_, by simpa [ptrTo] using VRel.ptr (off := 0) (sp := none) hb⟩
        cases z with
        | agg cs => show VRelL ι' cs.toList cs.toList; exact .plainL (by simpa [plainV] using hp)
        | _ => exact .cons (.plainV hp) .nil

theorem ok_box {e : TypeId} {x : Operand} (ho : o.op = .box e x) : RunOk P o (cr P (.box e x)) := by
  simp only [cr]
  cases hx : opdOk x with
  | false => exact RunOk.no _ _
  | true =>
    intro ι g ρ ob mk hv hr
    have hrx := hr x (by simp [ho, Op.operands]) hx
    simp only [] at hv
    cases hc : cellsOf (ev g x) with
    | none => simp [hc] at hv
    | some cs =>
      simp only [hc, Option.some.injEq, Prod.mk.injEq] at hv
      obtain ⟨rfl, rfl⟩ := hv
      refine ⟨newB_par _ _, fun w => ⟨(ρ x).cells.size, .cells (ρ x).cells e, _, .pointer (some ⟨w.heap.size, 0, none⟩), WPush.mk' w _, ?_, ?_⟩⟩
      · simp [execOp, ho, Instr.box, newVar, newRow]
      · intro ι' b hx' hb
        exact ⟨newB_rel' _ ((cellsOf_rel hc hrx).mono hx'), by simpa [ptrTo] using VRel.ptr (off := 0) (sp := none) hb⟩

theorem ok_makeMap {t : TypeId} {r : Option Operand} (ho : o.op = .makeMap t r) : RunOk P o (cr P (.makeMap t r)) := by
  simp only [cr]
  cases r with
  | some r => exact RunOk.no _ _
  | none =>
    intro ι g ρ ob mk hv hr
    simp only [Option.some.injEq, Prod.mk.injEq] at hv
    obtain ⟨rfl, rfl⟩ := hv
    refine ⟨fun p => by cases ptrMap P t <;> simp [Par], fun w => ⟨0, .map #[] 0, _, .map (some w.heap.size), WPush.mk' w _, ?_, ?_⟩⟩
    · simp [execOp, ho, Instr.makeMap]
    · intro ι' b hx hb
      refine ⟨?_, VRel.map hb⟩
      cases ptrMap P t with
      | true => exact .pmap (lst := []) (by simp) .nil (by simp) .nil (by simp) (by simp)
      | false => exact .map (lst := []) (by simp) .nil .nil (by simp) (by simp)

theorem repL_length : ∀ (n : Nat) (l : List Value), (repL n l).length = n * l.length
  | 0, l => by simp [repL]
  | n + 1, l => by simp [repL, repL_length n l, Nat.succ_mul]; omega
theorem repL_get : ∀ (n : Nat) (l : List Value) (i : Nat), i < n * l.length → (repL n l)[i]? = l[i % l.length]?
  | 0, l, i, h => by simp at h
  | n + 1, l, i, h => by
    simp only [repL]
    by_cases hi : i < l.length
    · rw [List.getElem?_append_left hi, Nat.mod_eq_of_lt hi]
    · rw [List.getElem?_append_right (by omega), repL_get n l (i - l.length) (by rw [Nat.succ_mul] at h; omega)]
      congr 1
      rw [Nat.mod_eq_sub_mod (by omega : i ≥ l.length)]
/-- the model's row of zeros -/
theorem zeros_eq {z : Array Value} {n k : Nat} (hz : z.size ≠ 0) (hk : k = n * z.size) : ((Array.range k).map (fun i => z[i % z.size]!)).toList = repL n z.toList := by
  apply List.ext_getElem?
  intro i
  subst hk
  by_cases hi : i < n * z.size
  · rw [repL_get n z.toList i (by simpa using hi)]
    have hm : i % z.size < z.size := Nat.mod_lt _ (by omega)
    simp [hi, getElem!_pos, hm]
  · rw [List.getElem?_eq_none (by simp; omega), List.getElem?_eq_none (by rw [repL_length]; simp; omega)]
theorem repL_rel {ι : Inj} : ∀ (n : Nat) {l l' : List Value}, VRelL ι l l' → VRelL ι (repL n l) (repL n l')
  | 0, _, _, _ => .nil
  | n + 1, _, _, h => h.append (repL_rel n h)
theorem plain_cells {z : Value} (hp : plainV z = true) (ι : Inj) : VRelL ι z.cells.toList z.cells.toList := by
  cases z with
  | agg cs => show VRelL ι cs.toList cs.toList; exact .plainL (by simpa [plainV] using hp)
  | _ => exact .cons (.plainV hp) .nil

theorem sliceElem_eq {t e : TypeId} (h : sliceElem P t = some e) : P.underlying t = some (.slice e) := by
  unfold sliceElem at h
  cases hu : P.underlying t with
  | none => simp [hu] at h
  | some d => cases d <;> simp only [hu] at h <;> first | (cases h; done) | (cases h; rfl)

theorem ok_buildSlice {t : TypeId} {len : Nat} {parts : Array (Nat × Operand)} (ho : o.op = .buildSlice t len parts) : RunOk P o (cr P (.buildSlice t len parts)) := by
  simp only [cr]
  cases he : sliceElem P t with
  | none => exact RunOk.no _ _
  | some e =>
    simp only []
    cases hs : szOf P e with
    | none => exact RunOk.no _ _
    | some n =>
      cases hz : zeroOf P e with
      | none => exact RunOk.no _ _
      | some z =>
        simp only []
        cases hc : plainV z && Nat.beq z.cells.size n && !Nat.beq n 0 && Nat.ble (len * n) 16777216 with
        | false => exact RunOk.no _ _
        | true =>
          simp only [Bool.and_eq_true, Nat.beq_eq, Bool.not_eq_true', Nat.ble_eq] at hc
          obtain ⟨⟨⟨hp, hzs⟩, hn0⟩, hle⟩ := hc
          have hn : n ≠ 0 := fun e => by subst e; simp at hn0
          simp only [cond_true]
          cases hpl : placesA n parts.toList with
          | none => exact RunOk.no _ _
          | some ps =>
            have hops : o.op.operands.toList = parts.toList.map (·.2) := by rw [ho]; simp [Op.operands]
            have hu := sliceElem_eq he
            intro ι g ρ ob mk hv hr
            simp only [] at hv
            cases hfl : fillL (repL len z.cells.toList) (partsL g ps) with
            | none => simp [hfl] at hv
            | some cs =>
              simp only [hfl, Option.some.injEq, Prod.mk.injEq] at hv
              obtain ⟨rfl, rfl⟩ := hv
              obtain ⟨h1, h2⟩ := placesA_get hpl
              have hbase : VRelL ι (repL len z.cells.toList) ((Array.range (len * n)).map (fun i => z.cells[i % z.cells.size]!)).toList := by
                rw [zeros_eq (n := len) (by omega) (by rw [hzs])]
                exact repL_rel _ (plain_cells hp ι)
              obtain ⟨cs', e1, e2⟩ := fill_rel (place := fun i => some (i * n, n))
                (ps' := (parts.map fun (i, x) => (i, ρ x)).toList) hfl hbase (by simp [partsL_length, h1]) (by
                  intro k off m v hk
                  rw [partsL_get] at hk
                  cases hpk : ps[k]? with
                  | none => simp [hpk] at hk
                  | some q =>
                    obtain ⟨a, b, x⟩ := q
                    simp only [hpk, Option.map_some, Option.some.injEq, Prod.mk.injEq] at hk
                    obtain ⟨rfl, rfl, rfl⟩ := hk
                    obtain ⟨hox, rfl, i, hl, rfl⟩ := h2 k _ _ _ hpk
                    refine ⟨i, ρ x, by simp [hl], rfl, hr x ?_ hox⟩
                    rw [hops]
                    exact List.mem_map.2 ⟨(i, x), List.mem_of_getElem? hl, rfl⟩)
              refine ⟨newB_par _ _, fun w => ⟨cs'.size, .cells cs' e, _, .slice (some ⟨w.heap.size, 0, none⟩) len len, WPush.mk' w _, ?_, ?_⟩⟩
              · have h24 : ¬ (len * n > 16777216) := by omega
                have hz0 : ¬ (len * n = 0) ∨ len * n = 0 := by omega
                simp only [execOp, ho, Instr.buildSlice, Sem.run_bind, run_underlying hu, Result.andThen_ok, run_sizeOf' hs]
                have h24' : ¬ (len * n > 2 ^ 24) := by simpa using h24
                by_cases h0 : len * n = 0
                · have hl0 : len = 0 := by
                    rcases Nat.mul_eq_zero.1 h0 with x | x
                    · exact x
                    · exact absurd x hn
                  subst hl0
                  have e1' : Instr.fill (fun i => some (i * n, n)) ((Array.range (0 * n)).map (fun i => z.cells[i % z.cells.size]!)) (parts.map fun p => (p.1, ρ p.2)).toList = some cs' := e1
                  have hrz : Array.range 0 = #[] := rfl
                  simp [hrz] at e1'
                  simp [newRow, hrz, e1']
                · simp only [h24', if_false, h0, Sem.run_bind, run_zeroValue' hz, Sem.run_pure, Result.andThen_ok]
                  rw [e1]; simp [newRow]
              · intro ι' b hx hb
                refine ⟨newB_rel' _ (e2.mono hx), ?_⟩
                exact VRel.slice hb (Nat.le_refl _) (Nat.le_refl _) (fun _ => rfl) (fun _ h => by cases h) (fun _ => rfl)

theorem wrap64_id {n : Int} (h : -9223372036854775808 ≤ n) (h' : n ≤ 9223372036854775807) : IntKind.i64.wrap n = n := by
  simp only [IntKind.wrap, IntKind.bits, IntKind.signed, Bool.true_and, Int.reducePow, Nat.reduceSub]; split <;> rename_i hh <;> (simp at hh; omega)

theorem ok_makeSlice {t : TypeId} {l c : Operand} (ho : o.op = .makeSlice t l c) : RunOk P o (cr P (.makeSlice t l c)) := by
  simp only [cr]
  cases hx : opdOk l && opdOk c with
  | false => exact RunOk.no _ _
  | true =>
    simp only [Bool.and_eq_true] at hx
    simp only [cond_true]
    cases he : sliceElem P t with
    | none => exact RunOk.no _ _
    | some e =>
      simp only []
      cases hi : P.info? e with
      | none => exact RunOk.no _ _
      | some i =>
        simp only []
        cases hz : i.zero with
        | none => exact RunOk.no _ _
        | some z =>
          simp only []
          cases hc : plainV z && Nat.beq z.cells.size i.size && !Nat.beq i.size 0 with
          | false => exact RunOk.no _ _
          | true =>
            simp only [Bool.and_eq_true, Nat.beq_eq, Bool.not_eq_true'] at hc
            obtain ⟨⟨hp, hzs⟩, hn0⟩ := hc
            have hn : i.size ≠ 0 := fun e => by rw [e] at hn0; simp at hn0
            have hu := sliceElem_eq he
            have hzo : zeroOf P e = some z := by simp [zeroOf, hi, hz]
            have hso : szOf P e = some i.size := by simp [szOf, hi]
            intro ι g ρ ob mk hv hr
            have hrl := hr l (by simp [ho, Op.operands]) hx.1
            have hrc := hr c (by simp [ho, Op.operands]) hx.2
            simp only [] at hv
            cases hel : ev g l <;> simp only [hel] at hv <;> try (cases hv; done)
            cases hec : ev g c <;> simp only [hec] at hv <;> try (cases hv; done)
            rename_i k1 l' k2 c'
            rw [hel] at hrl; rw [hec] at hrc
            have e1 := hrl.int_inv; have e2 := hrc.int_inv
            cases hb : decide (0 ≤ l') && decide (l' ≤ c') && inR 0 100000000 c' && Nat.ble (i.bytes * c'.toNat) 1000000000 with
            | false => rw [hb] at hv; cases hv
            | true =>
              rw [hb] at hv
              simp only [cond_true, Option.some.injEq, Prod.mk.injEq] at hv
              obtain ⟨rfl, rfl⟩ := hv
              simp only [inR, Bool.and_eq_true, decide_eq_true_eq, Nat.ble_eq] at hb
              obtain ⟨⟨⟨hl0, hlc⟩, _, hc1⟩, hby⟩ := hb
              obtain ⟨ln, rfl⟩ := Int.eq_ofNat_of_zero_le hl0
              obtain ⟨cn, rfl⟩ := Int.eq_ofNat_of_zero_le (Int.le_trans hl0 hlc)
              have hby' : i.bytes * cn ≤ 1000000000 := by simpa using hby
              refine ⟨newB_par _ _, fun w => ⟨cn * i.size, .cells ((Array.range (cn * i.size)).map (fun j => z.cells[j % z.cells.size]!)) e, _, .slice (some ⟨w.heap.size, 0, none⟩) ln cn, WPush.mk' w _, ?_, ?_⟩⟩
              · have w1 : IntKind.i64.wrap (ln : Int) = ln := wrap64_id (by omega) (by omega)
                have w2 : IntKind.i64.wrap (cn : Int) = cn := wrap64_id (by omega) (by omega)
                have hb1 : ((i.bytes : Int) * (cn : Int)) = ((i.bytes * cn : Nat) : Int) := by simp
                have hcond : ¬ ((((cn : Int) < 0) || ((i.bytes : Int) * (cn : Int) > 2 ^ 48) || ((ln : Int) < 0) || ((ln : Int) > (cn : Int))) = true) := by
                  rw [hb1]; simp only [Bool.or_eq_true, decide_eq_true_eq, not_or]; omega
                have hnz : cn * i.size = 0 ∨ cn * i.size ≠ 0 := by omega
                have hti : (typeInfo e).run P w = .ok i w := run_typeInfo' hi w
                simp only [execOp, ho, e1, e2, Instr.makeSlice, Sem.run_bind, run_underlying hu, Result.andThen_ok, asInt, asIntOf, Sem.run_pure, hti, w1, w2]
                rw [if_neg (by simpa [Bool.or_assoc] using hcond)]
                simp only [Sem.run_pure, Result.andThen_ok, Sem.run_bind, run_askRoom, run_sizeOf' hso, Int.toNat_natCast]
                by_cases h0 : cn * i.size = 0
                · have hrz : Array.range 0 = #[] := rfl
                  simp [h0, newRow, hrz]
                · simp [h0, run_zeroValue' hzo, newRow]
              · intro ι' b hx' hb'
                have hsz : ((Array.range (cn * i.size)).map (fun j => z.cells[j % z.cells.size]!)).size = cn * i.size := by simp
                have hzq : ((Array.range (cn * i.size)).map (fun j => z.cells[j % z.cells.size]!)).toList = repL cn z.cells.toList := zeros_eq (by omega) (by rw [hzs])
                refine ⟨?_, ?_⟩
                · have := newB_rel' (P := P) (ι := ι') (e := e) (cs := repL cn z.cells.toList) (cells := (Array.range (cn * i.size)).map (fun j => z.cells[j % z.cells.size]!)) w.heap.size
                    (by rw [hzq]; exact repL_rel _ (plain_cells hp _))
                  rw [hsz] at this
                  simpa using this
                · exact VRel.slice hb' (by simp; omega) (Nat.le_refl _) (fun _ => rfl) (fun _ h => by cases h) (fun _ => rfl)

end Go.AM
/- Conversions. -/
namespace Go.AM
variable {P : Program} {o : Oper} {ι : Inj} {s : S} {w : World}

theorem bytesStr_spec : ∀ {l : List Value} {b : List UInt8}, bytesStr l = some b → ∃ ns : List Int, l = ns.map (Value.int .u8) ∧ b = ns.map fun n => UInt8.ofNat n.toNat
  | [], b, h => by simp only [bytesStr, Option.some.injEq] at h; subst h; exact ⟨[], rfl, rfl⟩
  | v :: l, b, h => by
    cases v with
    | int k n =>
      cases k <;> simp only [bytesStr] at h <;> try (cases h; done)
      cases hl : bytesStr l with
      | none => simp [hl] at h
      | some b' =>
        simp only [hl, Option.some.injEq] at h; subst h
        obtain ⟨ns, e1, e2⟩ := bytesStr_spec hl
        exact ⟨n :: ns, by simp [e1], by simp [e2]⟩
    | _ => simp [bytesStr] at h

theorem VRelL.ints {ι : Inj} : ∀ {ns : List Int} {l' : List Value}, VRelL ι (ns.map (Value.int .u8)) l' → l' = ns.map (Value.int .u8)
  | [], _, .nil => rfl
  | n :: ns, _, .cons h1 h2 => by rw [h1.int_inv, h2.ints]; rfl

theorem push_foldl (ns : List Int) : ∀ (b : ByteArray), ns.foldl (fun r n => r.push (UInt8.ofNat n.toNat)) b = ⟨(b.data.toList ++ ns.map fun n => UInt8.ofNat n.toNat).toArray⟩ := by
  induction ns with
  | nil => intro b; simp
  | cons n ns ih =>
    intro b
    simp only [List.foldl_cons, ih]
    apply ByteArray.ext
    simp [ByteArray.push]

theorem strBytes_eq (l : List UInt8) : strBytes l = l.map fun b => Value.int .u8 b.toNat := by
  induction l with
  | nil => rfl
  | cons b l ih => simp [strBytes, ih]

theorem grownCap_le (w : World) (n old e : Nat) : n ≤ grownCap w n old e := by unfold grownCap Question.cut; simp

theorem bytes_push (w : World) (e : TypeId) (b : ByteArray) : WPush w (Lib.bytesWorld w e b) (.cells (Lib.bytesCells w e b) e ((Lib.bytesCells w e b).size, (Lib.bytesCells w e b).size + 1)) := by
  refine ⟨Lib.bytesWorld_at_new w e b, fun c hc => Lib.bytesWorld_at_old w e b c hc, Lib.bytesWorld_size w e b, ?_, ?_, ?_⟩ <;>
    simp [Lib.bytesWorld, World.freeze, World.alloc, World.drew, -World.alloc_eq, -World.drew_eq]

theorem freeze_put {w : World} {b : Nat} {cells : Array Value} {e : TypeId} {fr : Nat × Nat} (h : w.heap[b]? = some (.cells cells e fr)) :
    WPut w (w.freeze ⟨b, cells.size, none⟩ 1) b (.cells cells e (if fr.1 == fr.2 then (cells.size, cells.size + 1) else (min fr.1 cells.size, max fr.2 (cells.size + 1)))) := by
  obtain ⟨lo, hi⟩ := fr
  refine ⟨?_, fun c hc => ?_, ?_, rfl, rfl, rfl⟩
  · simp [World.freeze, Array.getElem?_modify, h]
  · simp [World.freeze, Array.getElem?_modify, Ne.symm hc]
  · simp [World.freeze]

theorem ok_convert {src dst : TypeId} {x : Operand} (ho : o.op = .convert src dst x) : RunOk P o (cr P (.convert src dst x)) := by
  simp only [cr]
  cases hx : opdOk x with
  | false => exact RunOk.no _ _
  | true =>
    simp only [cond_true]
    have hops : ∀ ι g ρ, ORho ι g ρ o.op.operands.toList → VRel ι (ev g x) (ρ x) := fun ι g ρ hr => hr x (by simp [ho, Op.operands]) hx
    cases hs : P.underlying src with
    | none => exact RunOk.no _ _
    | some ds =>
      cases hd : P.underlying dst with
      | none => cases ds <;> exact RunOk.no _ _
      | some dd =>
        have hint : ∀ k, dd = .int k → PuOk P o (fun g => match ev g x with | .int _ n => some (.int k (wrapF k n)) | .chan (some m) => symConv k m | _ => none) := by
          intro k hk ι g ρ v hv hr
          subst hk
          have hrx := hops ι g ρ hr
          simp only [] at hv
          cases he : ev g x with
          | int kk n =>
            simp only [he, Option.some.injEq] at hv; subst hv
            rw [he] at hrx
            have e := hrx.int_inv
            refine ⟨_, .int _ _, fun w => ?_⟩
            simp only [execOp, ho, e, convert, Sem.run_bind, run_underlying hs, run_underlying hd, Result.andThen_ok]
            cases ds <;> simp [Conv.intToInt, wrapF_eq]
          | chan q =>
            cases q with
            | none => simp [he] at hv
            | some m =>
              simp only [he] at hv
              rw [he] at hrx
              obtain ⟨k', N, e, hrel⟩ := symConv_ok hv hrx
              refine ⟨_, hrel, fun w => ?_⟩
              simp only [execOp, ho, e, convert, Sem.run_bind, run_underlying hs, run_underlying hd, Result.andThen_ok]
              cases ds <;> simp [Conv.intToInt, wrapF_eq]
          | _ => simp [he] at hv
        cases dd with
        | int k => cases ds <;> exact hint k rfl
        | string =>
          cases ds with
          | string =>
            intro ι g ρ v hv hr
            have hrx := hops ι g ρ hr
            simp only [] at hv
            cases he : ev g x <;> simp only [he] at hv <;> try (cases hv; done)
            simp only [Option.some.injEq] at hv; subst hv
            rw [he] at hrx
            have e := hrx.string_inv
            exact ⟨_, .string _, fun w => by simp [execOp, ho, e, convert, run_underlying hs, run_underlying hd]⟩
          | slice e =>
            simp only []
            cases heu : P.underlying e with
            | none => exact RunOk.no _ _
            | some de =>
              cases de with
              | int k =>
                cases k with
                | u8 =>
                  intro ι s w g ρ v hv hS hr
                  have hrx := hops ι g ρ hr
                  simp only [] at hv
                  cases he : ev g x with
                  | slice a n c =>
                    rw [he] at hrx
                    cases a with
                    | none =>
                      simp only [he, Option.some.injEq] at hv; subst hv
                      have e1 := hrx.nilslice_inv
                      refine ⟨_, .string _, ?_⟩
                      simp [execOp, ho, e1, run_convert_bytes_string w src dst e none n c hs heu hd, Conv.bytesToString]
                    | some a =>
                      simp only [he] at hv
                      cases hl : s.load a.block a.off n with
                      | none => simp [hl] at hv
                      | some vs =>
                        simp only [hl] at hv
                        cases hb : bytesStr vs with
                        | none => simp [hb] at hv
                        | some b =>
                          simp only [hb, Option.some.injEq] at hv; subst hv
                          obtain ⟨l, off', c', hi, hnc, hcc, _, _, hoff, e1⟩ := hrx.slice_inv
                          obtain ⟨vs', h1, h2, h3⟩ := load_rel hS hi hl
                          obtain ⟨ns, q1, q2⟩ := bytesStr_spec hb
                          rw [q1] at h1
                          have hvs := h1.ints
                          refine ⟨_, .string _, ?_⟩
                          have hrun : (loadCells ⟨l.blk, off', none⟩ n).run P w = .ok (ns.map (Value.int .u8)).toArray w := by
                            by_cases hc0 : c' = 0
                            · have hn0 : n = 0 := by omega
                              have hns : ns = [] := by
                                have : vs'.length = 0 := by omega
                                rw [hvs] at this; simpa using this
                              subst hns; rw [hn0]; rfl
                            · rw [hoff hc0]
                              have := run_loadCells_list (P := P) w ⟨l.blk, l.base + a.off, none⟩ vs' h3
                              rw [h2, hvs] at this; exact this
                          have hfin := run_bytesToString (P := P) w ⟨l.blk, off', none⟩ n c' ns hrun
                          rw [push_foldl] at hfin
                          simp only [execOp, ho, e1, Sem.run_bind, run_convert_bytes_string w src dst e _ n c' hs heu hd, hfin, Result.andThen_ok, Sem.run_pure, q2]
                          rfl
                  | _ => simp [he] at hv
                | _ => exact RunOk.no _ _
              | _ => exact RunOk.no _ _
          | _ => exact RunOk.no _ _
        | slice e =>
          cases ds with
          | string =>
            simp only []
            cases heu : P.underlying e with
            | none => exact RunOk.no _ _
            | some de =>
              cases de with
              | int k =>
                cases k with
                | u8 =>
                  cases hsz : szOf P e with
                  | none => exact RunOk.no _ _
                  | some n =>
                    match n with
                    | 0 => exact RunOk.no _ _
                    | n + 2 => exact RunOk.no _ _
                    | 1 =>
                      intro ι g ρ ob mk hv hr
                      have hrx := hops ι g ρ hr
                      simp only [] at hv
                      cases he : ev g x <;> simp only [he] at hv <;> try (cases hv; done)
                      rename_i b
                      simp only [Option.some.injEq, Prod.mk.injEq] at hv
                      obtain ⟨rfl, rfl⟩ := hv
                      rw [he] at hrx
                      have e1 := hrx.string_inv
                      refine ⟨newB_par _ _, fun w => ⟨(Lib.bytesCells w e b).size, _, _, .slice (some ⟨w.heap.size, 0, none⟩) b.size (grownCap w b.size 0 e), bytes_push w e b, ?_, ?_⟩⟩
                      · simp only [execOp, ho, e1, Sem.run_bind, Lib.run_convert_string_bytes w src dst e b hs hd heu, Result.andThen_ok, Sem.run_pure]
                      · intro ι' bb hx' hbb
                        have hbs : b.data.size = b.size := rfl
                        have hge := grownCap_le w b.size 0 e
                        have hcs : (Lib.bytesCells w e b).size = grownCap w b.size 0 e := by simp [Lib.bytesCells]; omega
                        refine ⟨newB_rel _ ?_ ?_ rfl (.inr ⟨rfl, by simp [isU8, heu]⟩), ?_⟩
                        · rw [strBytes_eq]
                          have : (Lib.bytesCells w e b).toList.take (b.data.toList.map fun x => Value.int .u8 (x.toNat : Int)).length = b.data.toList.map fun x => Value.int .u8 (x.toNat : Int) := by
                            simp [Lib.bytesCells]
                          rw [this]
                          have hpl : ∀ l : List UInt8, VRelL ι' (l.map fun x => Value.int .u8 (x.toNat : Int)) (l.map fun x => Value.int .u8 (x.toNat : Int)) := by
                            intro l
                            induction l with
                            | nil => exact .nil
                            | cons a l ih => exact .cons (.int _ _) ih
                          exact hpl _
                        · rw [strBytes_eq]; simp; omega
                        · exact VRel.slice hbb (Nat.le_refl _) hge (fun h => by cases h) (fun z hz _ => by cases hz; simp [hcs]) (fun _ => rfl)
                | _ => exact RunOk.no _ _
              | _ => exact RunOk.no _ _
          | slice e' =>
            cases hsd : Nat.beq src dst with
            | false => exact RunOk.no _ _
            | true =>
              simp only [cond_true]
              have hsd' := Nat.eq_of_beq_eq_true hsd
              subst hsd'
              have hee : e' = e := by rw [hs] at hd; cases hd; rfl
              subst hee
              cases heu : P.underlying e' with
              | none => exact RunOk.no _ _
              | some de =>
                cases de with
                | int k =>
                  cases k with
                  | u8 =>
                    intro hb ι s w g ρ hS hn hlo hr
                    have hrx := hops ι g ρ hr
                    cases he : ev g x with
                    | slice a n c =>
                      cases a with
                      | none => simp only [he]; trivial
                      | some a =>
                        simp only [he]
                        cases hbk : s.blk? a.block with
                        | none => trivial
                        | some bk =>
                          rw [he] at hrx
                          obtain ⟨l, off', c', hi, hnc, hcc, hex, hop, hoff, e1⟩ := hrx.slice_inv
                          rw [S.blk?_eq] at hbk
                          cases hlt : Nat.blt bk.st 2 && isU8 P bk.elem with
                          | false => simp only [hlt, cond_false]; trivial
                          | true =>
                          simp only [hlt, cond_true]
                          simp only [Bool.and_eq_true, Nat.blt_eq] at hlt
                          obtain ⟨hlt', hu8⟩ := hlt
                          simp only [HdPost, ValPost]
                          have hconv : (execOp ρ o).run P w = ((markStringish ⟨l.blk, off', none⟩).run P w).andThen fun _ w' => .ok (.value (.slice (some ⟨l.blk, off', none⟩) n c')) w' := by
                            simp only [execOp, ho, e1, convert, Sem.run_bind, run_underlying hs, run_underlying hd, Result.andThen_ok, beq_self_eq_true]
                            simp only [run_underlying heu, Sem.run_bind, Result.andThen_ok, Sem.run_pure]
                            cases (markStringish ⟨l.blk, off', none⟩).run P w <;> rfl
                          obtain ⟨o', ho', hro⟩ := hS.obj a.block l _ hi hbk
                          cases o' with
                          | cells cells ce fr =>
                            refine ⟨ι, w.freeze ⟨l.blk, cells.size, none⟩ 1, .slice (some ⟨l.blk, off', none⟩) n c', .inl ?_, by rw [e1] at hrx; exact hrx, ?_, ?_⟩
                            · rw [hconv]
                              simp [markStringish, World.shape?, ho']
                            · refine hS.touch (freeze_put ho') ?_
                              intro id l2 o2 h1 h2 h3
                              obtain ⟨o3, q1, q2⟩ := hS.obj id l2 o2 h1 h3
                              rw [h2, ho'] at q1; cases q1
                              have hce : isU8 P ce = true := by
                                cases hro with
                                | dead _ x => simp only at hlt'; omega
                                | blk _ _ _ _ => exact hu8
                              cases q2 with
                              | dead _ x => exact .dead _ x
                              | blk b1 b2 b3 b4 =>
                                refine .blk b1 b2 b3 (.inr ⟨?_, hce⟩)
                                rcases b4 with rfl | ⟨rfl, _⟩
                                · simp [b1]
                                · simp [b1]
                              | row b1 b2 =>
                                refine .row b1 (.inr ⟨?_, hce⟩)
                                rcases b2 with rfl | ⟨rfl, _⟩
                                · simp [b1]
                                · simp [b1]
                            · exact Fm.touch ⟨a.block, l, _, hi, rfl, hbk, hlt'⟩ (freeze_put ho')
                          | _ =>
                            refine ⟨ι, w, .slice (some ⟨l.blk, off', none⟩) n c', .inl ?_, by rw [e1] at hrx; exact hrx, hS, Fm.refl _ _ _ _⟩
                            rw [hconv]
                            simp [markStringish, World.shape?, ho']
                    | _ => simp only [he]; trivial
                  | _ => exact RunOk.no _ _
                | _ => exact RunOk.no _ _
          | _ => exact RunOk.no _ _
        | _ => cases ds <;> exact RunOk.no _ _

end Go.AM
/- Stores. -/
namespace Go.AM
variable {P : Program} {o : Oper} {ι : Inj} {s : S} {w : World}

theorem WPut.trans {w w' w'' : World} {b : Nat} {o o' : Obj} (h : WPut w w' b o) (k : WPut w' w'' b o') : WPut w w'' b o' :=
  ⟨k.at_, fun c hc => by rw [k.other c hc, h.other c hc], by rw [k.size, h.size], by rw [k.os, h.os], by rw [k.out, h.out], by rw [k.tape, h.tape]⟩

theorem setCell_put {w : World} {b i : Nat} {cells : Array Value} {e : TypeId} {fr : Nat × Nat} (h : w.heap[b]? = some (.cells cells e fr)) (v : Value) :
    WPut w (w.setCell ⟨b, i, none⟩ v) b (.cells (cells.setIfInBounds i v) e fr) := by
  refine ⟨?_, fun c hc => ?_, ?_, rfl, rfl, rfl⟩
  · simp [World.setCell, Array.getElem?_modify, h]
  · simp [World.setCell, Array.getElem?_modify, Ne.symm hc]
  · simp [World.setCell]

def setAll (cur : Array Value) : Nat → List Value → Array Value
  | _, [] => cur
  | i, v :: vs => setAll (cur.setIfInBounds i v) (i + 1) vs
theorem setAll_size : ∀ (vs : List Value) (cur : Array Value) (i : Nat), (setAll cur i vs).size = cur.size
  | [], _, _ => rfl
  | v :: vs, cur, i => by simp [setAll, setAll_size vs]
theorem setAll_get : ∀ (vs : List Value) (cur : Array Value) (i k : Nat), i + vs.length ≤ cur.size → (setAll cur i vs)[k]? = if i ≤ k ∧ k < i + vs.length then vs[k - i]? else cur[k]?
  | [], cur, i, k, h => by simp [setAll]; intro h1 h2; omega
  | v :: vs, cur, i, k, h => by
    simp only [setAll]
    simp only [List.length_cons] at h
    rw [setAll_get vs _ (i + 1) k (by simp; omega)]
    by_cases h1 : i + 1 ≤ k ∧ k < i + 1 + vs.length
    · rw [if_pos h1, if_pos (by simp; omega)]
      obtain ⟨j, rfl⟩ : ∃ j, k = i + 1 + j := ⟨k - (i + 1), by omega⟩
      rw [show i + 1 + j - (i + 1) = j by omega, show i + 1 + j - i = j + 1 by omega]; rfl
    · rw [if_neg h1]
      by_cases h2 : k = i
      · subst h2
        rw [if_pos (by simp)]
        rw [Array.getElem?_setIfInBounds_self_of_lt (by omega)]
        simp
      · rw [if_neg (by simp; omega), Array.getElem?_setIfInBounds_ne (Ne.symm h2)]

theorem run_storeCells_any {b off : Nat} {e : TypeId} {fr : Nat × Nat} : ∀ (vs : List Value) (i : Nat) (cur : Array Value) (w : World), w.heap[b]? = some (.cells cur e fr) →
    (fr = (0, 0) ∨ fr = (cur.size, cur.size + 1)) → off + i + vs.length ≤ cur.size → (∀ v ∈ vs, v.oneCell' = true) →
    ∃ w', (storeCells ⟨b, off, none⟩ vs i).run P w = .ok () w' ∧ WPut w w' b (.cells (setAll cur (off + i) vs) e fr)
  | [], i, cur, w, h, _, _, _ => ⟨w, rfl, ⟨h, fun _ _ => rfl, rfl, rfl, rfl, rfl⟩⟩
  | v :: vs, i, cur, w, h, hf, hl, hv => by
    have hc : w.cell? ⟨b, off + i, none⟩ = cur[off + i]? := cell_of_heap h
    simp only [List.length_cons] at hl
    have hlt : off + i < cur.size := by omega
    have hfz : w.frozen? ⟨b, off + i, none⟩ = false := by
      rw [frozen_of_heap h]
      rcases hf with rfl | rfl
      · simp
      · have : ¬ cur.size ≤ off + i := by omega
        simp [this]
    have hput := setCell_put (i := off + i) h v
    obtain ⟨w', h1, h2⟩ := run_storeCells_any (b := b) (off := off) (e := e) (fr := fr) vs (i + 1) (cur.setIfInBounds (off + i) v) _ hput.at_ (by simpa using hf) (by simp; omega) (fun u hu => hv u (by simp [hu]))
    refine ⟨w', ?_, hput.trans ?_⟩
    · simp only [storeCells, Sem.run_bind, Addr.add_none, run_store P w _ v _ (hv v (by simp)), hc, Array.getElem?_eq_getElem hlt, hfz, Bool.false_eq_true, if_false, Result.andThen_ok]
      exact h1
    · simpa [setAll, Nat.add_assoc] using h2

theorem storeL_spec {n : Nat} : ∀ {vs : List Value} {c c' : T Value} {i : Nat}, storeL c n vs i = some c' →
    (vs = [] ∨ i + vs.length ≤ n) ∧ ∀ k, c'.get k = if i ≤ k ∧ k < i + vs.length then vs[k - i]? else c.get k
  | [], c, c', i, h => by
    simp only [storeL, Option.some.injEq] at h; subst h
    refine ⟨.inl rfl, fun k => ?_⟩
    rw [if_neg (by simp only [List.length_nil]; omega)]
  | v :: vs, c, c', i, h => by
    simp only [storeL] at h
    cases hb : Nat.blt i n with
    | false => rw [hb] at h; cases h
    | true =>
      rw [hb] at h; simp only [cond_true] at h
      simp only [Nat.blt_eq] at hb
      obtain ⟨h1, h2⟩ := storeL_spec h
      refine ⟨.inr ?_, fun k => ?_⟩
      · rcases h1 with rfl | h1
        · simp; omega
        · simp; omega
      · rw [h2 k, T.get_set]
        by_cases hk : Nat.succ i ≤ k ∧ k < Nat.succ i + vs.length
        · rw [if_pos hk, if_pos (by simp; omega)]
          obtain ⟨j, rfl⟩ : ∃ j, k = i + 1 + j := ⟨k - (i + 1), by omega⟩
          rw [show i + 1 + j - Nat.succ i = j by omega, show i + 1 + j - i = j + 1 by omega]; rfl
        · rw [if_neg hk]
          by_cases e : k = i
          · subst e; rw [if_pos rfl, if_pos (by simp)]; simp
          · rw [if_neg e, if_neg (by simp; omega)]

theorem cellOk_one {ι : Inj} {v v' : Value} (h : cellOk v = true) (r : VRel ι v v') : v'.oneCell' = true := by
  cases r <;> first | rfl | simp [cellOk] at h
theorem allCells_one {ι : Inj} : ∀ {l l' : List Value}, allCells l = true → VRelL ι l l' → ∀ v ∈ l', v.oneCell' = true
  | _, _, _, .nil, v, hv => by simp at hv
  | _, _, h, .cons a b, v, hv => by
    simp only [allCells, Bool.and_eq_true] at h
    rcases List.mem_cons.1 hv with rfl | hm
    · exact cellOk_one h.1 a
    · exact allCells_one h.2 b v hm

/-- no row that stands lies over one that may be written; what lies under it goes first -/
theorem SRel.killed {hb : Nat} (h : SRel P ι s w) {b : Nat} {x : Blk} {s1 : S} (hi : ι b ≠ none) (hg : s.h.get b = some (.blk x)) (hst : x.st = 0) (hk : s.kill x.par = some s1) :
    SRel P ι s1 w ∧ Fm hb ι s w ι s1 w ∧ s1.nx = s.nx ∧ s1.lo = s.lo ∧ s1.h.get b = some (.blk x) ∧
      (∀ id2 l l2 o2, ι b = some l → id2 ≠ b → ι id2 = some l2 → l2.blk = l.blk → s1.h.get id2 = some o2 → Dead o2) ∧
      (∀ id2 o2, s1.h.get id2 = some o2 → ι id2 ≠ none → ¬ Dead o2 → ¬ Par o2 b) := by
  have hnd : ¬ Dead (.blk x) := by simp [Dead, hst]
  have hchild : ∀ id2 o2, s.h.get id2 = some o2 → ι id2 ≠ none → ¬ Dead o2 → ¬ Par o2 b := by
    intro id2 o2 a c d e
    obtain ⟨_, y⟩ := h.par id2 o2 b a c d e
    obtain ⟨b', e1, e2⟩ := y _ hg
    cases e1; exact e2 hst
  obtain ⟨xc, xn, xe, xp, xst⟩ := x
  cases xp with
  | none =>
    simp only [S.kill, Option.some.injEq] at hk; subst hk
    refine ⟨h, Fm.refl _ _ _ _, rfl, rfl, hg, ?_, hchild⟩
    intro id2 l l2 o2 hl hne hl2 hbl hg2
    rcases h.alias b id2 l l2 _ o2 (Ne.symm hne) hl hl2 hbl.symm hg hg2 with a | a | a | a
    · exact absurd a hnd
    · exact a
    · simp [Par] at a
    · by_cases hd : Dead o2
      · exact hd
      · exact absurd a (hchild id2 o2 hg2 (by rw [hl2]; simp) hd)
  | some p =>
    have hpb : Par (.blk ⟨xc, xn, xe, some p, xst⟩) p := rfl
    obtain ⟨hip, _⟩ := h.par b _ p hg hi hnd hpb
    obtain ⟨k1, k2, k3, k4, k5, bb, k6, k7⟩ := h.kill (hb := hb) hk hip
    have hne : b ≠ p := fun e => by subst e; exact hchild b _ hg hi hnd hpb
    refine ⟨k1, k2, k3, k4, by rw [k5 b hne]; exact hg, ?_, ?_⟩
    · intro id2 l l2 o2 hl hne2 hl2 hbl hg2
      by_cases e : id2 = p
      · subst e; rw [k6] at hg2; cases hg2; simp [Dead, k7]
      · rw [k5 id2 e] at hg2
        rcases h.alias b id2 l l2 _ o2 (Ne.symm hne2) hl hl2 hbl.symm hg hg2 with a | a | a | a
        · exact absurd a hnd
        · exact a
        · simp only [Par, Option.some.injEq] at a; exact absurd a.symm e
        · by_cases hd : Dead o2
          · exact hd
          · exact absurd a (hchild id2 o2 hg2 (by rw [hl2]; simp) hd)
    · intro id2 o2 hg2 a c
      by_cases e : id2 = p
      · subst e; rw [k6] at hg2; cases hg2; exact absurd (by simp [Dead, k7]) c
      · rw [k5 id2 e] at hg2; exact hchild id2 o2 hg2 a c

theorem store_rel {hb : Nat} (h : SRel P ι s w) {b off : Nat} {l : Loc} {vs vs' : List Value} {s' : S} (hi : ι b = some l) (hst : s.store b off vs = some s') (hr : VRelL ι vs vs') (hc : allCells vs = true) :
    ∃ w', (storeCells ⟨l.blk, l.base + off, none⟩ vs').run P w = .ok () w' ∧ SRel P ι s' w' ∧ Fm hb ι s w ι s' w' ∧ s'.nx = s.nx := by
  unfold S.store at hst
  cases hbk : s.blk? b with
  | none => simp [hbk] at hst
  | some x =>
    obtain ⟨c, n, e, p, st⟩ := x
    simp only [hbk] at hst
    cases hk : Nat.beq st 0 && Nat.ble s.lo b with
    | false => rw [hk] at hst; cases hst
    | true =>
      rw [hk] at hst; simp only [cond_true] at hst
      simp only [Bool.and_eq_true, Nat.beq_eq, Nat.ble_eq] at hk
      obtain ⟨rfl, hlo⟩ := hk
      cases hsl : storeL c n vs off with
      | none => simp [hsl] at hst
      | some c' =>
        cases hkl : s.kill p with
        | none => simp [hsl, hkl] at hst
        | some s1 =>
          simp only [hsl, hkl, Option.some.injEq] at hst; subst hst
          rw [S.blk?_eq] at hbk
          obtain ⟨k1, k2, k3, k4, k5, k6, k7⟩ := h.killed (hb := hb) (x := ⟨c, n, e, p, 0⟩) (by rw [hi]; simp) hbk rfl hkl
          obtain ⟨cells, fr, h1, hsz, htop, h4, hfr⟩ := h.row hi hbk (by omega)
          obtain ⟨hbd, hget⟩ := storeL_spec hsl
          have hlen := hr.length
          by_cases hvs : vs = []
          · subst hvs
            cases hr
            have hput : WPut w w l.blk (.cells cells e fr) := ⟨h1, fun _ _ => rfl, rfl, rfl, rfl, rfl⟩
            refine ⟨w, rfl, k1.put hi k5 (fun q => by simp [Par]) (fun id2 l2 o2 a b' c' d => k6 id2 l l2 o2 hi a b' c' d) k7 hput ?_, k2.trans (Fm.put hi k5 (by simp [NotHole]) (by rw [k4]; exact hlo) hput), by rw [S.put_nx, k3]⟩
            refine .blk hsz htop (fun i v hv hn => ?_) hfr
            rw [hget i, if_neg (by simp only [List.length_nil]; omega)] at hv
            exact h4 i v hv hn
          · have hbd' : off + vs.length ≤ n := hbd.resolve_left hvs
            obtain ⟨w', r1, r2⟩ := run_storeCells_any (P := P) (b := l.blk) (off := l.base + off) vs' 0 cells w h1 (by rw [hsz]; exact hfr.or) (by omega) (allCells_one hc hr)
            simp only [Nat.add_zero] at r2
            refine ⟨w', r1, k1.put hi k5 (fun q => by simp [Par]) (fun id2 l2 o2 a b' c' d => k6 id2 l l2 o2 hi a b' c' d) k7 r2 ?_, k2.trans (Fm.put hi k5 (by simp [NotHole]) (by rw [k4]; exact hlo) r2), by rw [S.put_nx, k3]⟩
            refine .blk (by rw [setAll_size]; exact hsz) htop (fun i v hv hn => ?_) hfr
            rw [hget i] at hv
            rw [setAll_get _ _ _ _ (by omega)]
            by_cases hin : off ≤ i ∧ i < off + vs.length
            · rw [if_pos hin] at hv
              rw [if_pos (by omega)]
              obtain ⟨v', x1, x2⟩ := hr.get hv
              exact ⟨v', by rw [← x1]; congr 1; omega, x2⟩
            · rw [if_neg hin] at hv
              rw [if_neg (by omega)]
              exact h4 i v hv hn

theorem ok_store {t : TypeId} {a x : Operand} (ho : o.op = .store t a x) : RunOk P o (cr P (.store t a x)) := by
  simp only [cr]
  cases hx : opdOk a && opdOk x with
  | false => exact RunOk.no _ _
  | true =>
    simp only [Bool.and_eq_true] at hx
    simp only [cond_true]
    cases hs : szOf P t with
    | none => exact RunOk.no _ _
    | some n =>
      intro hb ι s w g ρ hS hn hlo hr
      have hra := hr a (by simp [ho, Op.operands]) hx.1
      have hrx := hr x (by simp [ho, Op.operands]) hx.2
      cases he : ev g a with
      | pointer p =>
        cases p with
        | none => simp only [he]; trivial
        | some p =>
          simp only [he]
          cases hc : cellsOf (ev g x) with
          | none => trivial
          | some cs =>
            simp only []
            cases hk : Nat.beq cs.length n && allCells cs with
            | false => trivial
            | true =>
              simp only [cond_true]
              simp only [Bool.and_eq_true, Nat.beq_eq] at hk
              cases hst : s.store p.block p.off cs with
              | none => trivial
              | some s' =>
                rw [he] at hra
                obtain ⟨l, hi, e⟩ := hra.ptr_inv
                have hcs := cellsOf_rel hc hrx
                obtain ⟨w', r1, r2, r3, _⟩ := store_rel (hb := hb) hS hi hst hcs hk.2
                refine ⟨ι, w', undef, .inr ⟨?_, rfl⟩, .tuple .nil, r2, r3⟩
                have hsz : (ρ x).cells.size = n := by have := hcs.length; simp at this; omega
                have : ¬ ((ρ x).cells.size ≠ n) := by simp [hsz]
                simp [execOp, ho, e, Instr.storeAt, Instr.sureAddr, storeVar, run_sizeOf' hs, this, r1]
      | _ => simp only [he]; trivial

end Go.AM
/- Stores into maps; iterators. -/
namespace Go.AM
variable {P : Program} {o : Oper} {ι : Inj} {s : S} {w w' : World}

theorem SRel.putO (h : SRel P ι s w) {id : Nat} {l : Loc} {ob o₀ : AObj} {o' : Obj} (hi : ι id = some l) (h₀ : s.h.get id = some o₀) (hnb : ∀ b, o₀ ≠ .blk b)
    (hp : ∀ p, ¬ Par ob p) (hw : WPut w w' l.blk o') (hr : ORel P ι l ob o') : SRel P ι (s.put id ob) w' := by
  have hnd : ¬ Dead o₀ := by cases o₀ <;> first | exact absurd rfl (hnb _) | simp [Dead]
  have hnp : ∀ p, ¬ Par o₀ p := by intro p; cases o₀ <;> first | exact absurd rfl (hnb _) | simp [Par]
  have hc : ∀ id2 o2, s.h.get id2 = some o2 → ι id2 ≠ none → ¬ Dead o2 → ¬ Par o2 id := by
    intro id2 o2 a b c d
    obtain ⟨_, y⟩ := h.par id2 o2 id a b c d
    obtain ⟨b', e, _⟩ := y _ h₀
    exact hnb b' e
  refine h.put hi h₀ hp ?_ hc hw hr
  intro id2 l2 o2 hne hl2 hbl hg2
  rcases h.alias id id2 l l2 _ o2 (Ne.symm hne) hi hl2 hbl.symm h₀ hg2 with a | a | a | a
  · exact absurd a hnd
  · exact a
  · exact absurd a (hnp _)
  · by_cases hd : Dead o2
    · exact hd
    · exact absurd a (hc id2 o2 hg2 (by rw [hl2]; simp) hd)

theorem setObj_run {w : World} {r : Nat} {o₀ o1 : Obj} (h : w.heap[r]? = some o₀) (hn : ∀ c e f, o₀ ≠ .cells c e f) :
    (setObj r o1).run P w = .ok () { w with heap := w.heap.setIfInBounds r o1 } ∧ WPut w { w with heap := w.heap.setIfInBounds r o1 } r o1 := by
  have hlt : r < w.heap.size := by
    rcases Nat.lt_or_ge r w.heap.size with x | x
    · exact x
    · rw [Array.getElem?_eq_none x] at h; cases h
  refine ⟨?_, ?_, fun c hc => ?_, by simp, rfl, rfl, rfl⟩
  · simp only [setObj, Sem.run, h]
  · simp [hlt]
  · simp [Array.getElem?_setIfInBounds_ne (Ne.symm hc)]

theorem KeyNe.symm {x y : Value} (h : KeyNe x y) : KeyNe y x := by
  unfold KeyNe at h
  split at h
  · exact ⟨h.1.symm, fun e => h.2 e.symm⟩
  · exact fun e => h e.symm
  · exact h.elim

theorem putK_spec {kk : KeyKind} {k v : Value} (h0 : keyOk kk k = true) : ∀ {es es2 : List (Value × Value)} {nw : Bool}, putK kk k v es = some (nw, es2) → (∀ p ∈ es, keyOk kk p.1 = true) →
    (nw = true ∧ es2 = es ++ [(k, v)] ∧ ∀ p ∈ es, KeyNe k p.1) ∨ (nw = false ∧ ∃ a u b, es = a ++ (k, u) :: b ∧ es2 = a ++ (k, v) :: b)
  | [], es2, nw, h, _ => by simp only [putK, Option.some.injEq, Prod.mk.injEq] at h; obtain ⟨rfl, rfl⟩ := h; exact .inl ⟨rfl, rfl, by simp⟩
  | (k', v') :: es, es2, nw, h, hk => by
    obtain ⟨b, _, e2, e3, e4⟩ := key_spec h0 (hk (k', v') (by simp))
    simp only [putK, e2] at h
    cases b with
    | true =>
      simp only [Option.some.injEq, Prod.mk.injEq] at h; obtain ⟨rfl, rfl⟩ := h
      have := e3.1 rfl
      subst this
      exact .inr ⟨rfl, [], v', es, rfl, rfl⟩
    | false =>
      simp only [] at h
      cases hp : putK kk k v es with
      | none => simp [hp] at h
      | some q =>
        obtain ⟨nb, l⟩ := q
        simp only [hp, Option.some.injEq, Prod.mk.injEq] at h; obtain ⟨rfl, rfl⟩ := h
        rcases putK_spec h0 hp (fun p hp => hk p (by simp [hp])) with ⟨a, b, c⟩ | ⟨a, x, u, y, b, c⟩
        · refine .inl ⟨a, by rw [b]; rfl, fun p hp => ?_⟩
          rcases List.mem_cons.1 hp with rfl | hm
          · exact e4 rfl
          · exact c p hm
        · exact .inr ⟨a, (k', v') :: x, u, y, by rw [b]; rfl, by rw [c]; rfl⟩
theorem putK_first {kk : KeyKind} {k v : Value} {es es2 : List (Value × Value)} {nw : Bool} (h : putK kk k v es = some (nw, es2)) : ∀ p l, es = p :: l → keyOk kk p.1 = true := by
  intro p l e
  subst e
  obtain ⟨k', v'⟩ := p
  simp only [putK] at h
  cases he : keyEq kk k k' with
  | none => simp [he] at h
  | some b => exact (keyEq_ok he).2

theorem EsRel.append {ι : Inj} : ∀ {a b : List (Value × Value)} {a' b' : List MapEntry}, EsRel ι a a' → EsRel ι b b' → EsRel ι (a ++ b) (a' ++ b')
  | _, _, _, _, .nil, h => h
  | _, _, _, _, .cons x y z, h => .cons x y (z.append h)
theorem EsRel.split {ι : Inj} : ∀ {a : List (Value × Value)} {k u : Value} {b : List (Value × Value)} {l : List MapEntry}, EsRel ι (a ++ (k, u) :: b) l →
    ∃ la e lb, l = la ++ e :: lb ∧ EsRel ι a la ∧ VRel ι k e.key ∧ VRel ι u e.val ∧ EsRel ι b lb
  | [], k, u, b, _, .cons x y z => ⟨[], _, _, rfl, .nil, x, y, z⟩
  | p :: a, k, u, b, _, .cons x y z => by
    obtain ⟨la, e, lb, h1, h2, h3, h4, h5⟩ := z.split
    exact ⟨_ :: la, e, lb, by rw [h1]; rfl, .cons x y h2, h3, h4, h5⟩

theorem sameBits_self {kk : KeyKind} {k : Value} (h : keyOk kk k = true) (n : Nat) : Instr.sameBits n k k = true := by
  cases kk with
  | int _ => cases k <;> simp only [keyOk] at h <;> first | (cases h; done) | simp [Instr.sameBits]
  | str => cases k <;> simp only [keyOk] at h <;> first | (cases h; done) | simp [Instr.sameBits, bytes_beq]

def putObj (res : Option (Nat × Value)) (es' : Array MapEntry) (clk : Nat) (k x : Value) : Obj :=
  match res with
  | some (i, _) => .map (es'.modify i fun e => { e with key := k, val := x }) clk
  | none => .map (es'.push { key := k, val := x, born := clk }) (clk + 1)

/-- the model's store into a map: where the key is new, where it is not -/
theorem run_mapUpdate {t kt et : TypeId} (hu : P.underlying t = some (.map kt et)) {kk : KeyKind} (hk : keyKind P kt = some kk) {k x : Value} (hkk : keyOk kk k = true) {r : Nat} {es' : Array MapEntry} {clk : Nat}
    (hg : w.heap[r]? = some (.map es' clk)) {res : Option (Nat × Value)} (hf : (Instr.findKey kt k es'.toList).run P w = .ok res w) (hkey : ∀ i v, res = some (i, v) → ∃ e, es'[i]? = some e ∧ e.key = k) :
    ∃ w', (Instr.mapUpdate t (.map (some r)) k x).run P w = .ok () w' ∧
      WPut w w' r (putObj res es' clk k x) := by
  have hn : ∀ c e f, Obj.map es' clk ≠ .cells c e f := by intro c e f h; cases h
  cases res with
  | none =>
    obtain ⟨h1, h2⟩ := setObj_run (P := P) (o1 := .map (es'.push { key := k, val := x, born := clk }) (clk + 1)) hg hn
    refine ⟨_, ?_, h2⟩
    simp only [Instr.mapUpdate, Sem.run_bind, run_underlying hu, Result.andThen_ok, run_getObj_map hg, run_checkKey hk _ _ _ hkk, hf]
    exact h1
  | some q =>
    obtain ⟨i, v⟩ := q
    obtain ⟨e, he, hke⟩ := hkey i v rfl
    obtain ⟨h1, h2⟩ := setObj_run (P := P) (o1 := .map (es'.modify i fun e => { e with key := k, val := x }) clk) hg hn
    refine ⟨_, ?_, h2⟩
    simp only [Instr.mapUpdate, Sem.run_bind, run_underlying hu, Result.andThen_ok, run_getObj_map hg, run_checkKey hk _ _ _ hkk, hf, he, Option.map_some, Option.getD_some, Instr.keyThatStays, hke,
      sameBits_self hkk, if_true, Sem.run_pure]
    exact h1

theorem pairwise_key_eq {es : List (Value × Value)} (hpw : es.Pairwise (fun a b => KeyNe a.1 b.1)) {lst : List MapEntry} (hr : EsRel ι es lst) {kk : KeyKind} (hks : ∀ p ∈ es, keyOk kk p.1 = true) {k : Value}
    {e e' : MapEntry} (h : e ∈ lst) (h' : e' ∈ lst) (hk : e.key = k) (hk' : e'.key = k) : e = e' := by
  induction hr with
  | nil => simp at h
  | cons a b c ih =>
    rename_i q u f l l'
    rw [List.pairwise_cons] at hpw
    have hq := keyOk_vrel (hks (q, u) (by simp)) a
    rcases List.mem_cons.1 h with h1 | h1
    · rcases List.mem_cons.1 h' with h2 | h2
      · rw [h1, h2]
      · obtain ⟨p, m1, m2, _⟩ := c.mem' e' h2
        have := keyOk_vrel (hks p (by simp [m1])) m2
        exact absurd (show q = p.1 by rw [← this, hk', ← hk, h1, hq]) (hpw.1 p m1).ne
    · rcases List.mem_cons.1 h' with h2 | h2
      · obtain ⟨p, m1, m2, _⟩ := c.mem' e h1
        have := keyOk_vrel (hks p (by simp [m1])) m2
        exact absurd (show q = p.1 by rw [← this, hk, ← hk', h2, hq]) (hpw.1 p m1).ne
      · exact ih hpw.2 (fun p hp => hks p (by simp [hp])) h1 h2

theorem map_put_rel {kk : KeyKind} {k v v' : Value} (h0 : keyOk kk k = true) {es es2 : List (Value × Value)} {nw : Bool} (hp : putK kk k v es = some (nw, es2)) {es' : Array MapEntry} {lst : List MapEntry} {clk : Nat}
    (hperm : lst.Perm es'.toList) (hr : EsRel ι es lst) (hpw : es.Pairwise (fun a b => KeyNe a.1 b.1)) (hb : ∀ e ∈ es'.toList, e.born < clk) (hnd : (es'.toList.map (·.born)).Nodup) (hv : VRel ι v v')
    {kt : TypeId} (hkk : keyKind P kt = some kk) (w : World) (l : Loc) :
    ∃ res, (Instr.findKey kt k es'.toList).run P w = .ok res w ∧ (∀ i u, res = some (i, u) → ∃ e, es'[i]? = some e ∧ e.key = k) ∧
      ORel P ι l (.map es2 (bif nw then Nat.succ clk else clk))
        (putObj res es' clk k v') := by
  have hks := keys_ok (kk := kk) hpw (putK_first hp)
  rcases run_findKey hkk h0 hperm hr hpw hks w with ⟨u, j, e, hm, hj, hke, hue, hrun⟩ | ⟨hno, hno', hrun⟩
  · refine ⟨some (j, e.val), hrun, fun i u' h => ?_, ?_⟩
    · cases h; exact ⟨e, by simpa using hj, hke⟩
    · rcases putK_spec h0 hp hks with ⟨_, _, hne⟩ | ⟨rfl, a, u2, b, e1, e2⟩
      · exact absurd rfl (hne _ hm).ne
      · subst e1; subst e2
        obtain ⟨la, e0, lb, q1, q2, q3, q4, q5⟩ := hr.split
        have hk0 : e0.key = k := keyOk_vrel h0 q3
        have hmem : e ∈ lst := hperm.mem_iff.2 (List.mem_of_getElem? hj)
        have hee : e = e0 := pairwise_key_eq hpw hr hks hmem (by rw [q1]; simp) hke hk0
        subst hee
        simp only [cond_false, putObj]
        have hjlt : j < es'.toList.length := by
          rcases Nat.lt_or_ge j es'.toList.length with x | x
          · exact x
          · rw [List.getElem?_eq_none x] at hj; cases hj
        have hsplit : es'.toList = es'.toList.take j ++ e :: es'.toList.drop (j + 1) := by
          rw [List.getElem?_eq_getElem hjlt] at hj
          have : es'.toList[j] = e := by simpa using hj
          rw [← this, ← List.drop_eq_getElem_cons hjlt, List.take_append_drop]
        have hmod : (es'.modify j fun e => { e with key := k, val := v' }).toList = es'.toList.take j ++ { e with key := k, val := v' } :: es'.toList.drop (j + 1) := by
          rw [Array.toList_modify, List.modify_eq_take_cons_drop hjlt]
          rw [List.getElem?_eq_getElem hjlt] at hj
          have : es'.toList[j] = e := by simpa using hj
          rw [this]
        refine .map (lst := la ++ { e with key := k, val := v' } :: lb) ?_ (q2.append (.cons ?_ hv q5)) ?_ ?_ ?_
        · rw [hmod]
          have hp2 : (la ++ e :: lb).Perm (es'.toList.take j ++ e :: es'.toList.drop (j + 1)) := by rw [← hsplit, ← q1]; exact hperm
          have hp3 : (e :: (la ++ lb)).Perm (e :: (es'.toList.take j ++ es'.toList.drop (j + 1))) := (List.perm_middle.symm.trans hp2).trans List.perm_middle
          exact List.perm_middle.trans ((List.Perm.cons _ (List.Perm.cons_inv hp3)).trans List.perm_middle.symm)
        · show VRel ι k k
          exact hk0 ▸ q3
        · have hkeys : ∀ x y : Value, ((a ++ (k, x) :: b).map (·.1)) = ((a ++ (k, y) :: b).map (·.1)) := by intro x y; simp
          have := (List.pairwise_map (f := fun p : Value × Value => p.1) (R := KeyNe)).2 hpw
          rw [hkeys u2 v] at this
          exact (List.pairwise_map (f := fun p : Value × Value => p.1) (R := KeyNe)).1 this
        · intro e2 he2
          rw [hmod] at he2
          rcases List.mem_append.1 he2 with x | x
          · exact hb e2 (List.mem_of_mem_take x)
          · rcases List.mem_cons.1 x with rfl | x
            · exact hb e (List.mem_of_getElem? hj)
            · exact hb e2 (List.mem_of_mem_drop x)
        · rw [hmod]
          rw [hsplit] at hnd
          simpa using hnd
  · refine ⟨none, hrun, fun i u h => (by cases h), ?_⟩
    rcases putK_spec h0 hp hks with ⟨rfl, e1, hne⟩ | ⟨_, a, u2, b, e1, _⟩
    · subst e1
      simp only [cond_true, putObj]
      refine .map (lst := lst ++ [{ key := k, val := v', born := clk }]) ?_ (hr.append (.cons ?_ hv .nil)) ?_ ?_ ?_
      · rw [Array.toList_push]; exact hperm.append_right _
      · show VRel ι k k
        cases kk with
        | int _ => cases k <;> simp only [keyOk] at h0 <;> first | (cases h0; done) | exact .int _ _
        | str => cases k <;> simp only [keyOk] at h0 <;> first | (cases h0; done) | exact .string _
      · rw [List.pairwise_append]
        exact ⟨hpw, by simp, fun a ha b hb => by simp at hb; subst hb; exact (hne a ha).symm⟩
      · intro e he
        rw [Array.toList_push] at he
        rcases List.mem_append.1 he with x | x
        · have := hb e x; omega
        · simp at x; subst x; simp
      · rw [Array.toList_push, List.map_append, List.nodup_append]
        refine ⟨hnd, by simp, ?_⟩
        intro a ha b hb'
        simp at hb'; subst hb'
        obtain ⟨e, he, rfl⟩ := List.mem_map.1 ha
        have := hb e he; omega
    · exact absurd rfl (hno (k, u2) (by rw [e1]; simp))

end Go.AM
/- Stores into maps keyed by pointers. -/
namespace Go.AM
variable {P : Program} {o : Oper} {ι : Inj} {s : S} {w w' : World}

theorem putP_spec {a : Addr} {v : Value} : ∀ {es es2 : List (Value × Value)} {nw : Bool}, putP a v es = (nw, es2) → (∀ q ∈ es, ∃ a', q.1 = .pointer (some a')) →
    (nw = true ∧ es2 = es ++ [(.pointer (some a), v)] ∧ ∀ q ∈ es, ∀ a', q.1 = .pointer (some a') → ¬ (a'.block = a.block ∧ a'.off = a.off)) ∨
    (nw = false ∧ ∃ A a' u B, es = A ++ (.pointer (some a'), u) :: B ∧ es2 = A ++ (.pointer (some a), v) :: B ∧ a'.block = a.block ∧ a'.off = a.off)
  | [], es2, nw, h, _ => by simp only [putP, Prod.mk.injEq] at h; obtain ⟨rfl, rfl⟩ := h; exact .inl ⟨rfl, rfl, by simp⟩
  | (k, v') :: es, es2, nw, h, hk => by
    obtain ⟨a', ha'⟩ := hk (k, v') (by simp)
    simp only at ha'; subst ha'
    simp only [putP] at h
    cases hb : Nat.beq a'.block a.block && Nat.beq a'.off a.off with
    | true =>
      rw [hb] at h; simp only [cond_true, Prod.mk.injEq] at h
      obtain ⟨rfl, rfl⟩ := h
      simp only [Bool.and_eq_true, Nat.beq_eq] at hb
      exact .inr ⟨rfl, [], a', v', es, rfl, rfl, hb.1, hb.2⟩
    | false =>
      rw [hb] at h; simp only [cond_false] at h
      cases hp : putP a v es with
      | mk nb l =>
        rw [hp] at h; simp only [Prod.mk.injEq] at h; obtain ⟨rfl, rfl⟩ := h
        rcases putP_spec hp (fun p hp => hk p (by simp [hp])) with ⟨x, y, z⟩ | ⟨x, A, a2, u, B, y1, y2, y3⟩
        · refine .inl ⟨x, by rw [y]; rfl, fun q hq a3 e => ?_⟩
          rcases List.mem_cons.1 hq with rfl | hm
          · simp only [Value.pointer.injEq, Option.some.injEq] at e; subst e
            rintro ⟨e1, e2⟩
            rw [e1, e2, Nat.beq_refl, Nat.beq_refl] at hb; cases hb
          · exact z q hm a3 e
        · exact .inr ⟨x, _ :: A, a2, u, B, by rw [y1]; rfl, by rw [y2]; rfl, y3⟩

theorem run_mapUpdateP {t kt et : TypeId} (hu : P.underlying t = some (.map kt et)) (hk : ptrKey P kt = true) {x0 : Addr} {x : Value} {r : Nat} {es' : Array MapEntry} {clk : Nat}
    (hg : w.heap[r]? = some (.map es' clk)) {res : Option (Nat × Value)} (hf : (Instr.findKey kt (.pointer (some x0)) es'.toList).run P w = .ok res w) (hkey : ∀ i v, res = some (i, v) → ∃ e, es'[i]? = some e ∧ e.key = .pointer (some x0)) :
    ∃ w', (Instr.mapUpdate t (.map (some r)) (.pointer (some x0)) x).run P w = .ok () w' ∧ WPut w w' r (putObj res es' clk (.pointer (some x0)) x) := by
  have hn : ∀ c e f, Obj.map es' clk ≠ .cells c e f := by intro c e f h; cases h
  have hck : (Instr.checkKey false 10000 kt (.pointer (some x0))).run P w = .ok () w := run_checkKeyP hk false 9999 x0 w
  cases res with
  | none =>
    obtain ⟨h1, h2⟩ := setObj_run (P := P) (o1 := .map (es'.push { key := .pointer (some x0), val := x, born := clk }) (clk + 1)) hg hn
    refine ⟨_, ?_, h2⟩
    simp only [Instr.mapUpdate, Sem.run_bind, run_underlying hu, Result.andThen_ok, run_getObj_map hg, hck, hf]
    exact h1
  | some q =>
    obtain ⟨i, v⟩ := q
    obtain ⟨e, he, hke⟩ := hkey i v rfl
    obtain ⟨h1, h2⟩ := setObj_run (P := P) (o1 := .map (es'.modify i fun e => { e with key := .pointer (some x0), val := x }) clk) hg hn
    refine ⟨_, ?_, h2⟩
    have hsb : ∀ n, Instr.sameBits n (.pointer (some x0)) (.pointer (some x0)) = true := by intro n; cases n <;> simp [Instr.sameBits]
    simp only [Instr.mapUpdate, Sem.run_bind, run_underlying hu, Result.andThen_ok, run_getObj_map hg, hck, hf, he, Option.map_some, Option.getD_some, Instr.keyThatStays, hke, hsb, if_true, Sem.run_pure]
    exact h1

theorem pmap_put_rel (hS : SRel P ι s w) {kt : TypeId} (hkt : ptrKey P kt = true) {a : Addr} {la : Loc} (hi : ι a.block = some la) (ha : aloneB P s a.block = true) {es es2 : List (Value × Value)} (hks : keysP P s a.block es = true)
    {v v' : Value} {nw : Bool} (hp : putP a v es = (nw, es2)) {es' : Array MapEntry} {lst : List MapEntry} {clk : Nat}
    (hperm : lst.Perm es'.toList) (hr : EsRel ι es lst) (hpw : lst.Pairwise (fun a b => a.key ≠ b.key)) (hb : ∀ e ∈ es'.toList, e.born < clk) (hnd : (es'.toList.map (·.born)).Nodup)
    (hv : VRel ι v v') (l : Loc) :
    ∃ res, (Instr.findKey kt (.pointer (some ⟨la.blk, la.base + a.off, none⟩)) es'.toList).run P w = .ok res w ∧ (∀ i u, res = some (i, u) → ∃ e, es'[i]? = some e ∧ e.key = .pointer (some ⟨la.blk, la.base + a.off, none⟩)) ∧
      ORel P ι l (.pmap es2 (bif nw then Nat.succ clk else clk)) (putObj res es' clk (.pointer (some ⟨la.blk, la.base + a.off, none⟩)) v') := by
  have hkp : ∀ q ∈ es, ∃ a', q.1 = .pointer (some a') := fun q hq => let ⟨a', e1, _⟩ := keysP_mem hks q hq; ⟨a', e1⟩
  have place : ∀ e ∈ lst, ∀ q ∈ es, VRel ι q.1 e.key → (e.key = .pointer (some ⟨la.blk, la.base + a.off, none⟩) ↔ ∃ a', q.1 = .pointer (some a') ∧ a'.block = a.block ∧ a'.off = a.off) := by
    intro e _ q hq r1
    obtain ⟨a', e1, e2⟩ := keysP_mem hks q hq
    obtain ⟨y, cy, ey, y1, y2, y3⟩ := key_place hS hi ha e1 e2 r1
    rw [y1]
    constructor
    · intro h; cases h; exact ⟨a', e1, y3.1 rfl⟩
    · rintro ⟨a2, e3, e4⟩
      rw [e1] at e3; cases e3
      rw [y3.2 e4]
  have hkrel : VRel ι (.pointer (some a)) (.pointer (some ⟨la.blk, la.base + a.off, none⟩)) := by
    obtain ⟨ab, ao, asp⟩ := a
    exact .ptr hi
  rcases find_rel hS hkt hi ha hks hperm hr hpw with ⟨j, e, hj, hke, hrun⟩ | ⟨hno, hrun⟩
  · refine ⟨some (j, e.val), hrun, fun i u h => ?_, ?_⟩
    · cases h; exact ⟨e, by simpa using hj, hke⟩
    have hmem : e ∈ lst := hperm.mem_iff.2 (List.mem_of_getElem? hj)
    obtain ⟨q, hq, r1, _⟩ := hr.memP e hmem
    have hpl := (place e hmem q hq r1).1 hke
    rcases putP_spec hp hkp with ⟨_, _, hne⟩ | ⟨rfl, A, a', u2, B, e1, e2, y1, y2⟩
    · obtain ⟨a2, x1, x2⟩ := hpl
      exact absurd x2 (hne q hq a2 x1)
    · subst e1; subst e2
      obtain ⟨lA, e0, lB, q1, q2, q3, q4, q5⟩ := hr.split
      have hk0 : e0.key = .pointer (some ⟨la.blk, la.base + a.off, none⟩) := (place e0 (by rw [q1]; simp) (.pointer (some a'), u2) (by simp) q3).2 ⟨a', rfl, y1, y2⟩
      have hee : e = e0 := by
        have aux : ∀ {l : List MapEntry}, l.Pairwise (fun a b => a.key ≠ b.key) → ∀ a ∈ l, ∀ b ∈ l, a.key = b.key → a = b := by
          intro l
          induction l with
          | nil => intro _ a ha; simp at ha
          | cons c l ih =>
            intro hpw a ha b hb hab
            rw [List.pairwise_cons] at hpw
            rcases List.mem_cons.1 ha with ha | ha
            · rcases List.mem_cons.1 hb with hb | hb
              · rw [ha, hb]
              · exact absurd (by rw [← ha]; exact hab) (hpw.1 b hb)
            · rcases List.mem_cons.1 hb with hb | hb
              · exact absurd (by rw [← hb]; exact hab.symm) (hpw.1 a ha)
              · exact ih hpw.2 a ha b hb hab
        exact aux hpw e hmem e0 (by rw [q1]; simp) (by rw [hke, hk0])
      subst hee
      simp only [cond_false, putObj]
      have hjlt : j < es'.toList.length := by
        rcases Nat.lt_or_ge j es'.toList.length with x | x
        · exact x
        · rw [List.getElem?_eq_none x] at hj; cases hj
      have hsplit : es'.toList = es'.toList.take j ++ e :: es'.toList.drop (j + 1) := by
        rw [List.getElem?_eq_getElem hjlt] at hj
        have : es'.toList[j] = e := by simpa using hj
        rw [← this, ← List.drop_eq_getElem_cons hjlt, List.take_append_drop]
      have hmod : (es'.modify j fun e => { e with key := .pointer (some ⟨la.blk, la.base + a.off, none⟩), val := v' }).toList = es'.toList.take j ++ { e with key := .pointer (some ⟨la.blk, la.base + a.off, none⟩), val := v' } :: es'.toList.drop (j + 1) := by
        rw [Array.toList_modify, List.modify_eq_take_cons_drop hjlt]
        rw [List.getElem?_eq_getElem hjlt] at hj
        have : es'.toList[j] = e := by simpa using hj
        rw [this]
      refine .pmap (lst := lA ++ { e with key := .pointer (some ⟨la.blk, la.base + a.off, none⟩), val := v' } :: lB) ?_ (q2.append (.cons ?_ hv q5)) ?_ ?_ ?_ ?_
      · rw [hmod]
        have hp2 : (lA ++ e :: lB).Perm (es'.toList.take j ++ e :: es'.toList.drop (j + 1)) := by rw [← hsplit, ← q1]; exact hperm
        have hp3 : (e :: (lA ++ lB)).Perm (e :: (es'.toList.take j ++ es'.toList.drop (j + 1))) := (List.perm_middle.symm.trans hp2).trans List.perm_middle
        exact List.perm_middle.trans ((List.Perm.cons _ (List.Perm.cons_inv hp3)).trans List.perm_middle.symm)
      · exact hkrel
      · intro q hq
        rcases List.mem_append.1 hq with h | h
        · exact hkp q (by simp [h])
        · rcases List.mem_cons.1 h with rfl | h
          · exact ⟨a, rfl⟩
          · exact hkp q (by simp [h])
      · have := (List.pairwise_map (f := fun p : MapEntry => p.key) (R := fun a b : Value => a ≠ b)).2 hpw
        rw [q1] at this
        have e3 : ((lA ++ e :: lB).map fun p : MapEntry => p.key) = ((lA ++ { e with key := .pointer (some ⟨la.blk, la.base + a.off, none⟩), val := v' } :: lB).map fun p : MapEntry => p.key) := by simp [hke]
        rw [e3] at this
        exact (List.pairwise_map (f := fun p : MapEntry => p.key) (R := fun a b : Value => a ≠ b)).1 this
      · intro e2 he2
        rw [hmod] at he2
        rcases List.mem_append.1 he2 with x | x
        · exact hb e2 (List.mem_of_mem_take x)
        · rcases List.mem_cons.1 x with rfl | x
          · exact hb e (List.mem_of_getElem? hj)
          · exact hb e2 (List.mem_of_mem_drop x)
      · rw [hmod]
        rw [hsplit] at hnd
        simpa using hnd
  · refine ⟨none, hrun, fun i u h => (by cases h), ?_⟩
    rcases putP_spec hp hkp with ⟨rfl, e1, hne⟩ | ⟨_, A, a', u2, B, e1, _, y1, y2⟩
    · subst e1
      simp only [cond_true, putObj]
      refine .pmap (lst := lst ++ [{ key := .pointer (some ⟨la.blk, la.base + a.off, none⟩), val := v', born := clk }]) ?_ (hr.append (.cons hkrel hv .nil)) ?_ ?_ ?_ ?_
      · rw [Array.toList_push]; exact hperm.append_right _
      · intro q hq
        rcases List.mem_append.1 hq with h | h
        · exact hkp q h
        · simp at h; subst h; exact ⟨a, rfl⟩
      · rw [List.pairwise_append]
        exact ⟨hpw, by simp, fun x hx y hy => by simp at hy; subst hy; exact hno x (hperm.mem_iff.1 hx)⟩
      · intro e he
        rw [Array.toList_push] at he
        rcases List.mem_append.1 he with x | x
        · have := hb e x; omega
        · simp at x; subst x; simp
      · rw [Array.toList_push, List.map_append, List.nodup_append]
        refine ⟨hnd, by simp, ?_⟩
        intro a ha b hb'
        simp at hb'; subst hb'
        obtain ⟨e, he, rfl⟩ := List.mem_map.1 ha
        have := hb e he; omega
    · exfalso
      subst e1
      obtain ⟨lA, e0, lB, q1, q2, q3, q4, q5⟩ := hr.split
      have hm0 : e0 ∈ lst := by rw [q1]; simp
      exact hno e0 (hperm.mem_iff.1 hm0) ((place e0 hm0 (.pointer (some a'), u2) (by simp) q3).2 ⟨a', rfl, y1, y2⟩)

theorem ok_mapP {t kt et : TypeId} {m k x : Operand} (hex : ∀ ρ, execOp ρ o = (do Instr.mapUpdate t (ρ m) (ρ k) (ρ x); pure .skip)) (hops : o.op.operands.toList = [m, k, x]) (hu : P.underlying t = some (.map kt et))
    (hm : opdOk m = true) (hk : opdOk k = true) (hx : opdOk x = true) : RunOk P o (mapP P kt m k x) := by
  unfold mapP
  cases hkt : ptrKey P kt with
  | false => exact RunOk.no _ _
  | true =>
    intro hb ι s w g ρ hS hn hlo hr
    have hrm := hr m (by rw [hops]; simp) hm
    have hrk := hr k (by rw [hops]; simp) hk
    have hrx := hr x (by rw [hops]; simp) hx
    cases he : ev g m with
    | map r =>
      cases r with
      | none => simp only [he]; trivial
      | some r =>
        simp only [he]
        rw [he] at hrm
        obtain ⟨l, hi, e⟩ := hrm.map_inv
        cases hg : s.h.get r with
        | none => trivial
        | some ob =>
          cases ob with
          | pmap es clk =>
            simp only []
            cases hek : ev g k with
            | pointer a =>
              cases a with
              | none => trivial
              | some a =>
                simp only []
                cases hc : aloneB P s a.block && keysP P s a.block es && notTup (ev g x) && Nat.ble s.lo r with
                | false => trivial
                | true =>
                  simp only [cond_true]
                  simp only [Bool.and_eq_true, Nat.ble_eq] at hc
                  cases hp : putP a (ev g x) es with
                  | mk nw es2 =>
                    simp only []
                    obtain ⟨es', lst, h1, h2, h3, h4, h5, h6⟩ := hS.pmapAt hi hg
                    rw [hek] at hrk
                    have hpl : ∃ la, ι a.block = some la ∧ ρ k = .pointer (some ⟨la.blk, la.base + a.off, none⟩) := by
                      obtain ⟨ab, ao, asp⟩ := a
                      exact hrk.ptr_inv
                    obtain ⟨la, hia, ek⟩ := hpl
                    obtain ⟨res, f1, f2, f3⟩ := pmap_put_rel hS hkt hia hc.1.1.1 hc.1.1.2 hp h2 h3 h4 h5 h6 hrx l
                    obtain ⟨w', r1, r2⟩ := run_mapUpdateP (P := P) hu hkt (x := ρ x) h1 f1 f2
                    refine ⟨ι, w', undef, .inr ⟨?_, rfl⟩, .tuple .nil, hS.putO hi hg (by intro b h; cases h) (by intro p; simp [Par]) r2 f3, Fm.put hi hg trivial hc.2 r2⟩
                    rw [hex, e, ek]
                    simp [r1]
            | _ => trivial
          | _ => trivial
    | _ => simp only [he]; trivial

end Go.AM
/- Operations that act: maps, iterators, calls. -/
namespace Go.AM
variable {P : Program} {o : Oper} {ι : Inj} {s : S} {w w' : World}

theorem ok_mapR {t : TypeId} {m k x : Operand} (ho : o.op = .mapUpdate t m k x ∨ o.op = .insert t m k x) : RunOk P o (cr.mapR P t m k x) := by
  have hex : ∀ ρ, execOp ρ o = (do Instr.mapUpdate t (ρ m) (ρ k) (ρ x); pure .skip) := by
    intro ρ; rcases ho with h | h <;> simp only [execOp, h]
  have hops : o.op.operands.toList = [m, k, x] := by rcases ho with h | h <;> simp [h, Op.operands]
  simp only [cr.mapR]
  cases hx : opdOk m && opdOk k && opdOk x with
  | false => exact RunOk.no _ _
  | true =>
    simp only [Bool.and_eq_true] at hx
    simp only [cond_true]
    cases hu : P.underlying t with
    | none => exact RunOk.no _ _
    | some d =>
      cases d with
      | map kt et =>
        simp only []
        cases hkk : keyKind P kt with
        | none => exact ok_mapP hex hops hu hx.1.1 hx.1.2 hx.2
        | some kk =>
          intro hb ι s w g ρ hS hn hlo hr
          have hrm := hr m (by rw [hops]; simp) hx.1.1
          have hrk := hr k (by rw [hops]; simp) hx.1.2
          have hrx := hr x (by rw [hops]; simp) hx.2
          cases he : ev g m with
          | map r =>
            cases r with
            | none => simp only [he]; trivial
            | some r =>
              simp only [he]
              rw [he] at hrm
              obtain ⟨l, hi, e⟩ := hrm.map_inv
              cases hg : s.h.get r with
              | none => trivial
              | some ob =>
                cases ob with
                | map es clk =>
                  simp only []
                  cases hc : keyOk kk (ev g k) && notTup (ev g x) && Nat.ble s.lo r with
                  | false => trivial
                  | true =>
                    simp only [cond_true]
                    simp only [Bool.and_eq_true, Nat.ble_eq] at hc
                    cases hp : putK kk (ev g k) (ev g x) es with
                    | none => trivial
                    | some q =>
                      obtain ⟨nw, es2⟩ := q
                      simp only []
                      obtain ⟨es', lst, h1, h2, h3, h4, h5, h6⟩ := hS.mapAt hi hg
                      have ek := keyOk_vrel hc.1.1 hrk
                      obtain ⟨res, f1, f2, f3⟩ := map_put_rel (P := P) hc.1.1 hp h2 h3 h4 h5 h6 hrx hkk w l
                      obtain ⟨w', r1, r2⟩ := run_mapUpdate (P := P) hu hkk (x := ρ x) hc.1.1 h1 f1 f2
                      refine ⟨ι, w', undef, .inr ⟨?_, rfl⟩, .tuple .nil, hS.putO hi hg (by intro b h; cases h) (by intro p; simp [Par]) r2 f3, Fm.put hi hg trivial hc.2 r2⟩
                      rw [hex, e, ek]
                      simp [r1]
                | hole =>
                  simp only []
                  cases hc : keyOk kk (ev g k) && notTup (ev g x) with
                  | false => trivial
                  | true =>
                    simp only [Bool.and_eq_true] at hc
                    refine ⟨t, kt, et, kk, l, ρ k, ρ x, hu, hkk, hc.1, hi, hrk, hrx, hc.2, hg, fun w => ?_⟩
                    rw [hex, e]
                    simp
                | _ => trivial
          | _ => simp only [he]; trivial
      | _ => exact RunOk.no _ _

theorem ok_range {t : TypeId} {x : Operand} (ho : o.op = .range t x) : RunOk P o (cr P (.range t x)) := by
  simp only [cr]
  cases hx : opdOk x with
  | false => exact RunOk.no _ _
  | true =>
    simp only [cond_true]
    cases hu : P.underlying t with
    | none => exact RunOk.no _ _
    | some d =>
      cases d with
      | map kt et =>
        intro hb ι s w g ρ hS hn hlo hr
        have hrx := hr x (by simp [ho, Op.operands]) hx
        cases he : ev g x with
        | map r =>
          cases r with
          | none => simp only [he]; trivial
          | some r =>
            simp only [he]
            rw [he] at hrx
            obtain ⟨l, hi, e⟩ := hrx.map_inv
            cases hg : s.h.get r with
            | none => trivial
            | some ob =>
              cases ob with
              | map es clk =>
                simp only []
                obtain ⟨es', lst, h1, h2, h3, h4, h5, h6⟩ := hS.mapAt hi hg
                have hpush := WPush.mk' w (.mapIter (some l.blk) clk #[] clk)
                have hup := Ext.up (ι := ι) ⟨w.heap.size, 0, 0⟩ (hS.fresh _ (Nat.le_refl s.nx))
                refine ⟨ι.up s.nx ⟨w.heap.size, 0, 0⟩, _, .pointer (some ⟨w.heap.size, 0, none⟩), .inl ?_, ?_, hS.push (by intro p; simp [Par]) hpush (.iter rfl (hup _ _ hi)), Fm.push hS hn hlo hpush⟩
                · simp [execOp, ho, e, Instr.range, run_underlying hu, run_getObj_map h1]
                · simpa [ptrTo] using VRel.ptr (off := 0) (sp := none) (Inj.up_self ι s.nx ⟨w.heap.size, 0, 0⟩)
              | pmap es clk =>
                simp only []
                obtain ⟨es', lst, h1, h2, h3, h4, h5, h6⟩ := hS.pmapAt hi hg
                have hpush := WPush.mk' w (.mapIter (some l.blk) clk #[] clk)
                have hup := Ext.up (ι := ι) ⟨w.heap.size, 0, 0⟩ (hS.fresh _ (Nat.le_refl s.nx))
                refine ⟨ι.up s.nx ⟨w.heap.size, 0, 0⟩, _, .pointer (some ⟨w.heap.size, 0, none⟩), .inl ?_, ?_, hS.push (by intro p; simp [Par]) hpush (.iter rfl (hup _ _ hi)), Fm.push hS hn hlo hpush⟩
                · simp [execOp, ho, e, Instr.range, run_underlying hu, run_getObj_map h1]
                · simpa [ptrTo] using VRel.ptr (off := 0) (sp := none) (Inj.up_self ι s.nx ⟨w.heap.size, 0, 0⟩)
              | _ => trivial
        | _ => simp only [he]; trivial
      | string =>
        intro ι g ρ ob mk hv hr
        have hrx := hr x (by simp [ho, Op.operands]) hx
        simp only [] at hv
        cases he : ev g x <;> simp only [he] at hv <;> try (cases hv; done)
        rename_i b
        simp only [Option.some.injEq, Prod.mk.injEq] at hv
        obtain ⟨rfl, rfl⟩ := hv
        rw [he] at hrx
        have e := hrx.string_inv
        refine ⟨by intro p; simp [Par], fun w => ⟨0, .stringIter b 0, _, .pointer (some ⟨w.heap.size, 0, none⟩), WPush.mk' w _, ?_, ?_⟩⟩
        · simp [execOp, ho, e, Instr.range, run_underlying hu]
        · intro ι' b' _ hb
          exact ⟨.sit rfl (by simp), by simpa [ptrTo] using VRel.ptr (off := 0) (sp := none) hb⟩
      | _ => exact RunOk.no _ _

theorem run_getObj_sit {r : Nat} {b : ByteArray} {pos : Nat} (h : w.heap[r]? = some (.stringIter b pos)) : (getObj r).run P w = .ok (.stringIter b pos) w := by
  simp only [getObj, Sem.run, h]

theorem drop_cons_get {b : ByteArray} {pos : Nat} {c : UInt8} {l : List UInt8} (h : c :: l = b.data.toList.drop pos) : pos < b.size ∧ b.get! pos = c ∧ l = b.data.toList.drop (pos + 1) := by
  have hlt : pos < b.data.toList.length := by
    rcases Nat.lt_or_ge pos b.data.toList.length with x | x
    · exact x
    · rw [List.drop_eq_nil_of_le x] at h; cases h
  rw [List.drop_eq_getElem_cons hlt] at h
  simp only [List.cons.injEq] at h
  refine ⟨by simpa using hlt, ?_, h.2⟩
  rw [h.1]
  show b.data[pos]! = _
  have : pos < b.data.size := by simpa using hlt
  rw [getElem!_pos b.data pos this]; simp

theorem decode_ascii {b : ByteArray} {pos : Nat} {c : UInt8} (h : b.get! pos = c) (hc : c.toNat < 128) : Utf8.decode b pos = (c.toNat, 1) := by
  simp only [Utf8.decode, Nat.add_zero, h, hc, if_true]

theorem ok_nextS {it : Operand} (ho : o.op = .next it true) (hx : opdOk it = true) : HdOk P o (fun g s => match ev g it with
        | .pointer (some ⟨r, 0, _⟩) => match s.h.get r with
          | some (.sit l b pos) => match l with
            | [] => .val (.tuple #[.bool false]) s
            | c :: l => bif Nat.blt c.toNat 128 && Nat.ble s.lo r then .val (.tuple #[.bool true, goInt pos, .int .i32 c.toNat]) (s.put r (.sit l b (Nat.succ pos))) else .bad 128
          | _ => .bad 129
        | _ => .bad 130) := by
  intro hb ι s w g ρ hS hn hlo hr
  have hrx := hr it (by simp [ho, Op.operands]) hx
  cases he : ev g it with
  | pointer p =>
    cases p with
    | none => simp only [he]; trivial
    | some p =>
      obtain ⟨r, off, sp⟩ := p
      cases off with
      | succ n => simp only [he]; trivial
      | zero =>
        simp only [he]
        cases hgr : s.h.get r with
        | none => trivial
        | some ob =>
          cases ob with
          | sit l b pos =>
            rw [he] at hrx
            obtain ⟨lc, hi, e⟩ := hrx.ptr_inv
            obtain ⟨o', q1, q2⟩ := hS.obj r lc _ hi hgr
            cases q2 with
            | sit hz hd =>
              cases l with
              | nil =>
                refine ⟨ι, w, .tuple #[.bool false], .inl ?_, .tuple (.cons (.bool _) .nil), hS, Fm.refl _ _ _ _⟩
                have hge : ¬ pos < b.size := by
                  intro h
                  have : b.data.toList.drop pos ≠ [] := by
                    rw [List.drop_eq_getElem_cons (by simpa using h)]; simp
                  exact this hd.symm
                simp [execOp, ho, e, Instr.next, hz, run_getObj_sit q1, hge]
              | cons c l =>
                simp only []
                cases hc : Nat.blt c.toNat 128 && Nat.ble s.lo r with
                | false => trivial
                | true =>
                  simp only [Bool.and_eq_true, Nat.ble_eq, Nat.blt_eq] at hc
                  obtain ⟨d1, d2, d3⟩ := drop_cons_get hd
                  have hdec := decode_ascii d2 hc.1
                  obtain ⟨h1, h2⟩ := setObj_run (P := P) (o1 := .stringIter b (pos + 1)) q1 (by intro c e f h; cases h)
                  refine ⟨ι, _, .tuple #[.bool true, goInt pos, .int .i32 c.toNat], .inl ?_, .tuple (.cons (.bool _) (.cons (.int _ _) (.cons (.int _ _) .nil))),
                    hS.putO hi hgr (by intro b h; cases h) (by intro p; simp [Par]) h2 (.sit hz d3), Fm.put hi hgr trivial hc.2 h2⟩
                  simp [execOp, ho, e, Instr.next, hz, run_getObj_sit q1, d1, hdec, h1]
          | _ => trivial
  | _ => simp only [he]; trivial

theorem run_getObj_iter {r : Nat} {m : Option Nat} {since : Nat} {seen : Array Nat} {st : Nat} (h : w.heap[r]? = some (.mapIter m since seen st)) : (getObj r).run P w = .ok (.mapIter m since seen st) w := by
  simp only [getObj, Sem.run, h]

theorem ok_next {it : Operand} {b : Bool} (ho : o.op = .next it b) : RunOk P o (cr P (.next it b)) := by
  simp only [cr]
  cases hs : opdOk it && b with
  | true =>
    simp only [Bool.and_eq_true] at hs
    obtain ⟨hs, rfl⟩ := hs
    exact ok_nextS ho hs
  | false =>
  simp only [cond_false]
  cases hx : opdOk it && !b with
  | false => exact RunOk.no _ _
  | true =>
    simp only [Bool.and_eq_true, Bool.not_eq_true'] at hx
    obtain ⟨hx, rfl⟩ := hx
    intro hb ι s w g ρ hS hn hlo hr
    have hrx := hr it (by simp [ho, Op.operands]) hx
    have main : ∀ r sp m c, ev g it = .pointer (some ⟨r, 0, sp⟩) → s.h.get r = some (.iter (some m) c) → s.h.get m = some (.map [] c) →
        HdPost P hb ι s w ρ o (.val (.tuple #[.bool false]) s) := by
      intro r sp m c he hgr hgm
      rw [he] at hrx
      obtain ⟨l, hi, e⟩ := hrx.ptr_inv
      obtain ⟨o', q1, q2⟩ := hS.obj r l _ hi hgr
      cases q2 with
      | iter hz him =>
        rename_i lm
        obtain ⟨es', lst, h1, h2, h3, _, _, _⟩ := hS.mapAt him hgm
        have hes : es' = #[] := by
          cases h3
          have := h2.length_eq
          simp at this
          exact Array.size_eq_zero_iff.1 this.symm
        subst hes
        refine ⟨ι, w, .tuple #[.bool false], .inl ?_, .tuple (.cons (.bool _) .nil), hS, Fm.refl _ _ _ _⟩
        simp [execOp, ho, e, Instr.next, hz, run_getObj_iter q1, run_getObj_map h1, Question.forced]
    cases he : ev g it with
    | pointer p =>
      cases p with
      | none => simp only [he]; trivial
      | some p =>
        obtain ⟨r, off, sp⟩ := p
        cases off with
        | succ n => simp only [he]; trivial
        | zero =>
          simp only [he]
          cases hgr : s.h.get r with
          | none => trivial
          | some ob =>
            cases ob with
            | iter m c =>
              cases m with
              | none => trivial
              | some m =>
                simp only []
                cases hgm : s.h.get m with
                | none => trivial
                | some om =>
                  cases om with
                  | map es c' =>
                    cases es with
                    | cons _ _ => trivial
                    | nil =>
                      simp only []
                      cases hc : Nat.beq c c' with
                      | false => trivial
                      | true =>
                        have := Nat.eq_of_beq_eq_true hc
                        subst this
                        exact main r sp m c he hgr hgm
                  | _ => trivial
            | _ => trivial
    | _ => simp only [he]; trivial

/-! ### calls -/
theorem allNotTup_evs {g : T Value} : ∀ {xs : List Operand}, allNotTup (evs g xs) = true → ∀ x ∈ xs, notTup (ev g x) = true
  | [], _, x, h => by simp at h
  | y :: ys, h, x, hx => by
    simp only [evs, allNotTup, Bool.and_eq_true] at h
    rcases List.mem_cons.1 hx with rfl | hm
    · exact h.1
    · exact allNotTup_evs h.2 x hm

theorem bodyOk_run {f : FuncId} (h : bodyOk P f = true) (args : Array Value) (w : World) : (callFunc f args).run P w = .ok (.enter f args) w := by
  unfold bodyOk at h
  cases hf : P.funcs[f]? with
  | none => simp [hf] at h
  | some fn =>
    simp only [hf, Bool.and_eq_true, Bool.not_eq_true'] at h
    have hb : fn.body.isNone = false := by cases hb : fn.body <;> simp_all
    simp only [callFunc, Sem.run_bind, run_program, Result.andThen_ok, hf, h.2, Bool.false_eq_true, if_false, hb, Sem.run_pure]

theorem VRel.yield_inv {l : Nat} {a b : Array Value} {v : Value} (h : VRel ι (.func (.yield l) a b) v) : ∃ lb, ι l = some lb ∧ v = .func (.yield lb.blk) #[] #[] := by
  cases h with
  | yield hi => exact ⟨_, hi, rfl⟩

theorem ok_callV {c : Call} {f : Operand} (ho : o.op = .call c) (hc : c.callee = .value f) : RunOk P o (callR P c) := by
  simp only [callR, hc]
  cases hx : opdOk f && opdsOk c.args.toList with
  | false => exact RunOk.no _ _
  | true =>
    simp only [Bool.and_eq_true] at hx
    intro hb ι s w g ρ hS hn hlo hr
    have hops : o.op.operands.toList = f :: c.args.toList := by simp [ho, Op.operands, Call.operands, hc]
    have hrf := hr f (by rw [hops]; simp) hx.1
    have hra := evs_rel hx.2 (hr.sub (by rw [hops]; intro x hx; simp [hx]))
    simp only []
    cases hn' : allNotTup (evs g c.args.toList) with
    | false => trivial
    | true =>
      simp only [cond_true]
      unfold callV
      cases he : ev g f with
      | func fn first captured =>
        cases fn with
        | func fi =>
          simp only []
          cases hbo : bodyOk P fi with
          | false => trivial
          | true =>
            rw [he] at hrf
            obtain ⟨a', b', e, h1, h2⟩ := hrf.func_inv
            refine ⟨hbo, a' ++ c.args.map ρ ++ b', ?_, ?_⟩
            · simp only [execOp, ho, resolve, hc, e, Deferred.ofValue, Sem.run_bind, Sem.run_pure, Result.andThen_ok, invoke, bodyOk_run hbo]
            · simpa using (h1.append hra).append h2
        | yield l =>
          rw [he] at hrf
          obtain ⟨lb, hi, e⟩ := hrf.yield_inv
          refine ⟨lb, c.args.map ρ, hi, by simpa using hra, ?_⟩
          simp only [execOp, ho, resolve, hc, e, Deferred.ofValue, Sem.run_bind, Sem.run_pure, Result.andThen_ok, invoke]
          simp
        | _ => trivial
      | _ => trivial

theorem ok_defer {c : Call} (ho : o.op = .defer c) : RunOk P o (cr P (.defer c)) := by
  simp only [cr]
  cases hc : c.callee with
  | value f =>
    simp only []
    cases hx : opdOk f && opdsOk c.args.toList with
    | false => exact RunOk.no _ _
    | true =>
      simp only [Bool.and_eq_true] at hx
      intro hb ι s w g ρ hS hn hlo hr
      have hops : o.op.operands.toList = f :: c.args.toList := by simp [ho, Op.operands, Call.operands, hc]
      have hrf := hr f (by rw [hops]; simp) hx.1
      have hra := evs_rel hx.2 (hr.sub (by rw [hops]; intro x hx; simp [hx]))
      simp only []
      cases hn' : allNotTup (evs g c.args.toList) with
      | false => trivial
      | true =>
        simp only [cond_true]
        cases he : ev g f with
        | func fn first captured =>
          cases fn with
          | func fi =>
            simp only []
            cases hbo : bodyOk P fi with
            | false => trivial
            | true =>
              rw [he] at hrf
              obtain ⟨a', b', e, h1, h2⟩ := hrf.func_inv
              refine ⟨hbo, { target := .fn (.func fi) b', args := a' ++ c.args.map ρ }, ?_, .call h2 (by simpa using h1.append hra)⟩
              simp only [execOp, ho, resolve, hc, e, Deferred.ofValue, Sem.run_bind, Sem.run_pure, Result.andThen_ok]
          | _ => trivial
        | _ => trivial
  | _ => exact RunOk.no _ _

theorem ok_panic {x : Operand} (ho : o.op = .panic x) : RunOk P o (cr P (.panic x)) := by
  simp only [cr]
  cases hx : opdOk x with
  | false => exact RunOk.no _ _
  | true =>
    intro hb ι s w g ρ hS hn hlo hr
    have hrx := hr x (by simp [ho, Op.operands]) hx
    cases he : ev g x with
    | iface t v =>
      simp only [he]
      rw [he] at hrx
      obtain ⟨v', e, h⟩ := hrx.iface_inv
      exact ⟨v', by simp [execOp, ho, e, Instr.panic], h⟩
    | _ => simp only [he]; trivial

theorem ok_recover {c : Call} (ho : o.op = .call c) (hc : c.callee = .builtin .recover) : RunOk P o (builtinR P .recover c) := by
  simp only [builtinR]
  match ha : c.args.toList with
  | [] =>
    intro hb ι s w g ρ hS hn hlo hr
    show (execOp ρ o).run P w = .ok .recover w
    rw [call_builtin ho hc, args_of ha]
    rfl
  | _ :: _ => exact RunOk.no _ _

end Go.AM
/- append. -/
namespace Go.AM
variable {P : Program} {o : Oper} {ι : Inj} {s : S} {w w' : World}

/-- how the model reads the second operand: a number of zeros, or not -/
inductive Second (P : Program) (argT : Array TypeId) : Bool → Prop
  | none : argT[1]? = Option.none → Second P argT false
  | no {t : TypeId} {d : TypeDesc} : argT[1]? = some t → P.underlying t = some d → (∀ k, d ≠ .int k) → Second P argT false
  | yes {t : TypeId} {k : IntKind} : argT[1]? = some t → P.underlying t = some (.int k) → Second P argT true

theorem second_of {argT : Array TypeId} (h : typeOk P argT[1]? = true) : Second P argT (isIntT P argT[1]?) := by
  cases h1 : argT[1]? with
  | none => simp only [isIntT]; exact .none h1
  | some t =>
    rw [h1] at h
    simp only [typeOk] at h
    obtain ⟨d, hd⟩ := Option.isSome_iff_exists.1 h
    simp only [isIntT, hd]
    cases d <;> first | exact .yes h1 hd | exact .no h1 hd (by intro k h; cases h)

/-- the model's append, where there is room: what is brought is stored -/
theorem run_append_in {argT : Array TypeId} {ty t e : TypeId} {i : TypeInfo} (ht : argT[0]? = some t) (hu : P.underlying t = some (.slice e)) (hi : P.info? e = some i) (hsec : Second P argT false)
    {base : Option Addr} {len cap n : Nat} {y : Value} {new : Array Value} (hl : (Builtin.lenOf y).run P w = .ok n w) (hf : (Builtin.firstCells i.size n y).run P w = .ok new w) (hc : len + n ≤ cap)
    (hst : ∀ a, base = some a → (storeCells (a.add (len * i.size)) new.toList).run P w = .ok () w') (hno : base = none → w' = w) :
    (Builtin.append_ argT ty #[.slice base len cap, y]).run P w = .ok (.slice base (len + n) cap) w' := by
  have hs : szOf P e = some i.size := by simp [szOf, hi]
  cases hsec with
  | none h1 =>
    cases base with
    | none => have := hno rfl; subst this; simp [Builtin.append_, ht, run_underlying hu, run_sizeOf' hs, h1, hl, hf, hc]
    | some a => simp [Builtin.append_, ht, run_underlying hu, run_sizeOf' hs, h1, hl, hf, hc, hst a rfl]
  | no h1 h2 h3 =>
    rename_i xt d
    have hm : (match d with | .int _ => true | _ => false) = false := by cases d <;> first | rfl | exact absurd rfl (h3 _)
    cases base with
    | none => have := hno rfl; subst this; simp [Builtin.append_, ht, run_underlying hu, run_sizeOf' hs, h1, run_underlying h2, hm, hl, hf, hc]
    | some a => simp [Builtin.append_, ht, run_underlying hu, run_sizeOf' hs, h1, run_underlying h2, hm, hl, hf, hc, hst a rfl]


theorem growBy_le (m : Nat) : ∀ (r c : Nat), Builtin.growBy m r c ≤ (c + 768) * 2 ^ r
  | 0, c => by simp [Builtin.growBy]
  | r + 1, c => by
    simp only [Builtin.growBy]
    split
    · have h1 : 0 < 2 ^ (r + 1) := Nat.two_pow_pos _
      have := Nat.le_mul_of_pos_right (c + 768) h1
      omega
    · have := growBy_le m r (c + (c + 768) / 4)
      have h2 : (c + (c + 768) / 4 + 768) ≤ (c + 768) * 2 := by omega
      calc Builtin.growBy m r (c + (c + 768) / 4) ≤ (c + (c + 768) / 4 + 768) * 2 ^ r := this
        _ ≤ ((c + 768) * 2) * 2 ^ r := Nat.mul_le_mul_right _ h2
        _ = (c + 768) * 2 ^ (r + 1) := by rw [Nat.pow_succ, Nat.mul_assoc, Nat.mul_comm 2]
theorem nextslicecap_le {need cap : Nat} (h : cap < need) : Builtin.nextslicecap need cap ≤ (need + 768) * 16 := by
  unfold Builtin.nextslicecap
  split
  · omega
  · split
    · omega
    · have := growBy_le need 4 cap
      exact Nat.le_trans this (Nat.mul_le_mul_right 16 (by omega))
theorem next_bytes {need cap b : Nat} (h : cap < need) (hb : need * b ≤ 1000000000) (hn : need ≤ 1000000000) : ¬ (Builtin.nextslicecap need cap * b > 2 ^ 48) := by
  have h1 := nextslicecap_le h
  have h2 := Nat.mul_le_mul_right b h1
  have h3 : (need + 768) * 16 * b = 16 * (need * b) + 12288 * b := by
    rw [Nat.mul_assoc, Nat.mul_comm 16 b, ← Nat.mul_assoc, Nat.add_mul, Nat.add_mul]
    omega
  have h4 : b ≤ need * b := Nat.le_mul_of_pos_left b (by omega)
  omega

theorem zeroCells_eq {z : Array Value} (n : Nat) (hz : z.size ≠ 0) : (Builtin.zeroCells z n).toList = repL n z.toList := by
  unfold Builtin.zeroCells
  exact zeros_eq hz rfl
theorem zeroCells_size (z : Array Value) (n : Nat) : (Builtin.zeroCells z n).size = n * z.size := by simp [Builtin.zeroCells]

/-- the model's append, where there is no room: a new row -/
theorem run_append_out {argT : Array TypeId} {ty t e : TypeId} {i : TypeInfo} {z : Value} (ht : argT[0]? = some t) (hu : P.underlying t = some (.slice e)) (hi : P.info? e = some i) (hz : i.zero = some z) (hsec : Second P argT false)
    {base : Option Addr} {len cap n : Nat} {y : Value} {old new : Array Value} (hl : (Builtin.lenOf y).run P w = .ok n w) (hf : ∀ w1, WSame w w1 → (Builtin.firstCells i.size n y).run P w1 = .ok new w1)
    (ho : ∀ w1, WSame w w1 → (Builtin.firstCells i.size len (.slice base len cap)).run P w1 = .ok old w1) (hc : cap < len + n) (hb : (len + n) * i.bytes ≤ 1000000000) (hn : len + n ≤ 1000000000) :
    ∃ nc d, len + n ≤ nc ∧ (Builtin.append_ argT ty #[.slice base len cap, y]).run P w =
      .ok (.slice (some ⟨w.heap.size, 0, none⟩) (len + n) nc) { w with heap := w.heap.push (.cells (old ++ new ++ Builtin.zeroCells z.cells (nc - (len + n))) e), drawn := d } := by
  have hs : szOf P e = some i.size := by simp [szOf, hi]
  have hzo : zeroOf P e = some z := by simp [zeroOf, hi, hz]
  have hnot : ¬ (len + n ≤ cap) := by omega
  have hbig : ¬ ((len + n : Nat) : Int) > 9223372036854775807 := by omega
  have hbig' : ¬ (9223372036854775807 < (len : Int) + (n : Int)) := by omega
  have hnx := next_bytes hc hb hn
  have hnx' : ¬ (281474976710656 < Builtin.nextslicecap (len + n) cap * i.bytes) := by simpa using hnx
  refine ⟨(Question.appendCap (len + n) cap e).cut (w.tape w.drawn (.appendCap (len + n) cap e)), w.drawn + 1, by simp [Question.cut], ?_⟩
  have hf' := hf w.drew ⟨rfl, rfl, rfl, rfl⟩
  have ho' := ho w.drew ⟨rfl, rfl, rfl, rfl⟩
  cases hsec with
  | none h1 =>
    simp [Builtin.append_, ht, run_underlying hu, run_sizeOf' hs, h1, hl, hnot, run_typeInfo' hi, hbig', hnx', Question.forced, hf', ho', run_zeroValue' hzo, newRow, Array.append_assoc]
    rfl
  | no h1 h2 h3 =>
    rename_i xt d
    have hm : (match d with | .int _ => true | _ => false) = false := by cases d <;> first | rfl | exact absurd rfl (h3 _)
    simp [Builtin.append_, ht, run_underlying hu, run_sizeOf' hs, h1, run_underlying h2, hm, hl, hnot, run_typeInfo' hi, hbig', hnx', Question.forced, hf', ho', run_zeroValue' hzo, newRow, Array.append_assoc]
    rfl

/-- the same of a number of zeros -/
theorem run_append_in0 {argT : Array TypeId} {ty t e : TypeId} {i : TypeInfo} {z : Value} (ht : argT[0]? = some t) (hu : P.underlying t = some (.slice e)) (hi : P.info? e = some i) (hz : i.zero = some z) (hsec : Second P argT true)
    {base : Option Addr} {len cap n : Nat} {k : IntKind} (hn : n ≤ 1000000) (hnb : n * i.bytes ≤ 1000000000) (hc : len + n ≤ cap) (hsz : i.size ≠ 0)
    (hst : ∀ a, base = some a → (storeCells (a.add (len * i.size)) (Builtin.zeroCells z.cells n).toList).run P w = .ok () w') (hno : base = none → w' = w) :
    (Builtin.append_ argT ty #[.slice base len cap, .int k (n : Int)]).run P w = .ok (.slice base (len + n) cap) w' := by
  have hs : szOf P e = some i.size := by simp [szOf, hi]
  have hzo : zeroOf P e = some z := by simp [zeroOf, hi, hz]
  have hw : IntKind.i64.wrap (n : Int) = n := wrap64_id (by omega) (by omega)
  have h0 : ¬ ((n : Int) < 0) := by omega
  have hnb2 : (n : Int) * (i.bytes : Int) = ((n * i.bytes : Nat) : Int) := by simp
  have hbig : ¬ ((n : Int) * (i.bytes : Int) > 2 ^ 48) := by rw [hnb2]; omega
  have hbig' : ¬ (281474976710656 < (n : Int) * (i.bytes : Int)) := by rw [hnb2]; omega
  cases hsec with
  | yes h1 h2 =>
    by_cases hn0 : n = 0
    · subst hn0
      have hw0 : IntKind.i64.wrap 0 = 0 := by decide
      have hzc : (Builtin.zeroCells z.cells 0) = #[] := by simp [Builtin.zeroCells]
      rw [hzc] at hst
      cases base with
      | none =>
        have := hno rfl; subst this
        simp [Builtin.append_, ht, run_underlying hu, run_sizeOf' hs, h1, run_underlying h2, asInt, asIntOf, hw, run_typeInfo' hi, hc, hw0]
        omega
      | some a =>
        have := hst a rfl
        simp at this
        simp [Builtin.append_, ht, run_underlying hu, run_sizeOf' hs, h1, run_underlying h2, asInt, asIntOf, hw, run_typeInfo' hi, hc, this, hw0]
        omega
    · have hns : ¬ (n * i.size = 0) := by rw [Nat.mul_eq_zero]; omega
      cases base with
      | none => have := hno rfl; subst this; simp [Builtin.append_, ht, run_underlying hu, run_sizeOf' hs, h1, run_underlying h2, asInt, asIntOf, hw, run_typeInfo' hi, hc, h0, hbig', hns, run_zeroValue' hzo]
      | some a => simp [Builtin.append_, ht, run_underlying hu, run_sizeOf' hs, h1, run_underlying h2, asInt, asIntOf, hw, run_typeInfo' hi, hc, h0, hbig', hns, run_zeroValue' hzo, hst a rfl]

theorem run_append_out0 {argT : Array TypeId} {ty t e : TypeId} {i : TypeInfo} {z : Value} (ht : argT[0]? = some t) (hu : P.underlying t = some (.slice e)) (hi : P.info? e = some i) (hz : i.zero = some z) (hsec : Second P argT true)
    {base : Option Addr} {len cap n : Nat} {k : IntKind} {old : Array Value} (hn1 : n ≤ 1000000) (hnb : n * i.bytes ≤ 1000000000) (hsz : i.size ≠ 0)
    (ho : ∀ w1, WSame w w1 → (Builtin.firstCells i.size len (.slice base len cap)).run P w1 = .ok old w1) (hc : cap < len + n) (hb : (len + n) * i.bytes ≤ 1000000000) (hn : len + n ≤ 1000000000) :
    ∃ nc d, len + n ≤ nc ∧ (Builtin.append_ argT ty #[.slice base len cap, .int k (n : Int)]).run P w =
      .ok (.slice (some ⟨w.heap.size, 0, none⟩) (len + n) nc) { w with heap := w.heap.push (.cells (old ++ Builtin.zeroCells z.cells n ++ Builtin.zeroCells z.cells (nc - (len + n))) e), drawn := d } := by
  have hs : szOf P e = some i.size := by simp [szOf, hi]
  have hzo : zeroOf P e = some z := by simp [zeroOf, hi, hz]
  have hw : IntKind.i64.wrap (n : Int) = n := wrap64_id (by omega) (by omega)
  have h0 : ¬ ((n : Int) < 0) := by omega
  have hnb2 : (n : Int) * (i.bytes : Int) = ((n * i.bytes : Nat) : Int) := by simp
  have hbig2 : ¬ (281474976710656 < (n : Int) * (i.bytes : Int)) := by rw [hnb2]; omega
  have hnot : ¬ (len + n ≤ cap) := by omega
  have hbig' : ¬ (9223372036854775807 < (len : Int) + (n : Int)) := by omega
  have hnx := next_bytes hc hb hn
  have hnx' : ¬ (281474976710656 < Builtin.nextslicecap (len + n) cap * i.bytes) := by simpa using hnx
  refine ⟨(Question.appendCap (len + n) cap e).cut (w.tape w.drawn (.appendCap (len + n) cap e)), w.drawn + 1, by simp [Question.cut], ?_⟩
  have ho' := ho w.drew ⟨rfl, rfl, rfl, rfl⟩
  cases hsec with
  | yes h1 h2 =>
    by_cases hn0 : n = 0
    · subst hn0
      have hw0 : IntKind.i64.wrap 0 = 0 := by decide
      have hzc : (Builtin.zeroCells z.cells 0) = #[] := by simp [Builtin.zeroCells]
      have hcl : ¬ len ≤ cap := by omega
      have hbl : ¬ (9223372036854775807 < (len : Int)) := by omega
      have hnl : ¬ (281474976710656 < Builtin.nextslicecap len cap * i.bytes) := by simpa using hnx'
      simp [Builtin.append_, ht, run_underlying hu, run_sizeOf' hs, h1, run_underlying h2, asInt, asIntOf, hw, run_typeInfo' hi, hw0, hcl, hbl, hnl, Question.forced, ho', run_zeroValue' hzo, newRow, hzc]
      rfl
    · have hns : ¬ (n * i.size = 0) := by rw [Nat.mul_eq_zero]; omega
      simp [Builtin.append_, ht, run_underlying hu, run_sizeOf' hs, h1, run_underlying h2, asInt, asIntOf, hw, run_typeInfo' hi, hnot, h0, hbig2, hbig', hnx', hns, Question.forced, ho', run_zeroValue' hzo, newRow, Array.append_assoc]
      rfl

end Go.AM
/- append: the two machines side by side. -/
namespace Go.AM
variable {P : Program} {o : Oper} {ι : Inj} {s : S} {w w' : World} {hb : Nat}

/-- an object that nothing stood for gets its place -/
theorem SRel.bind (h : SRel P ι s w) {b : Nat} {l' : Loc} {o : AObj} {o' : Obj} (hu : ι b = none) (hg : s.h.get b = some o) (hn : b < s.nx)
    (hp : ∀ p, Par o p → ι p ≠ none ∧ ∀ o', s.h.get p = some o' → ∃ bb : Blk, o' = .blk bb ∧ bb.st ≠ 0)
    (hold : ∀ c, c < w.heap.size → w'.heap[c]? = w.heap[c]?) (hsz : w.heap.size ≤ w'.heap.size) (hlt : l'.blk < w'.heap.size)
    (hat : w'.heap[l'.blk]? = some o') (hr : ORel P (ι.up b l') l' o o')
    (hal : ∀ id2 l2 o2, ι id2 = some l2 → l2.blk = l'.blk → s.h.get id2 = some o2 → Dead o2 ∨ Par o id2) : SRel P (ι.up b l') s w' := by
  have hx := Ext.up l' hu
  refine ⟨?_, ?_, ?_, ?_, ?_⟩
  · intro id l ob a c
    by_cases e : id = b
    · subst e
      rw [Inj.up_self] at a; cases a
      rw [hg] at c; cases c
      exact ⟨o', hat, hr⟩
    · rw [Inj.up_ne _ _ e] at a
      obtain ⟨x, y, r⟩ := h.obj id l ob a c
      exact ⟨x, by rw [hold _ (h.bound _ _ a)]; exact y, r.mono hx⟩
  · intro id hi
    rw [Inj.up_ne _ _ (by omega)]; exact h.fresh id hi
  · intro id l a
    by_cases e : id = b
    · subst e; rw [Inj.up_self] at a; cases a; exact hlt
    · rw [Inj.up_ne _ _ e] at a; have := h.bound _ _ a; omega
  · intro id1 id2 l1 l2 o1 o2 hne a c e d f
    by_cases e1 : id1 = b
    · subst e1; rw [Inj.up_self] at a; cases a
      rw [Inj.up_ne _ _ (Ne.symm hne)] at c
      rw [hg] at d; cases d
      rcases hal id2 l2 o2 c e.symm f with x | x
      · exact .inr (.inl x)
      · exact .inr (.inr (.inl x))
    · rw [Inj.up_ne _ _ e1] at a
      by_cases e2 : id2 = b
      · subst e2; rw [Inj.up_self] at c; cases c
        rw [hg] at f; cases f
        rcases hal id1 l1 o1 a e d with x | x
        · exact .inl x
        · exact .inr (.inr (.inr x))
      · rw [Inj.up_ne _ _ e2] at c
        exact h.alias id1 id2 l1 l2 o1 o2 hne a c e d f
  · intro id ob p c a hd hpp
    have key : ι p ≠ none → ι.up b l' p ≠ none := fun x => by
      by_cases e2 : p = b
      · subst e2; rw [Inj.up_self]; simp
      · rw [Inj.up_ne _ _ e2]; exact x
    by_cases e : id = b
    · subst e; rw [hg] at c; cases c
      exact ⟨key (hp p hpp).1, (hp p hpp).2⟩
    · rw [Inj.up_ne _ _ e] at a
      obtain ⟨x, y⟩ := h.par id ob p c a hd hpp
      exact ⟨key x, y⟩

theorem Fm.bind {b : Nat} {l' : Loc} (hu : ι b = none) (hbb : hb ≤ b)
    (hold : ∀ c, c < w.heap.size → w'.heap[c]? = w.heap[c]?) (hsz : w.heap.size ≤ w'.heap.size)
    (hl : w.heap.size ≤ l'.blk ∨ OwnedL ι s l'.blk) (os : w'.os = w.os) (out : w'.output = w.output) (tape : w'.tape = w.tape) : Fm hb ι s w (ι.up b l') s w' := by
  refine { ext := Ext.up _ hu, keep := ?_, new := ?_, heap := fun c hc _ => hold c hc, own := ?_, ownL := ?_, absent := fun _ _ h => h, low := fun _ _ => rfl, lo := rfl, nx := Nat.le_refl _,
           size := hsz, os := os, out := out, tape := tape }
  · intro id hi hn; exact ⟨by rw [Inj.up_ne _ _ (by omega)]; exact hn, rfl⟩
  · intro id l hn hs
    by_cases e : id = b
    · subst e; rw [Inj.up_self] at hs; cases hs; exact hl
    · rw [Inj.up_ne _ _ e, hn] at hs; cases hs
  · rintro c hc ⟨id, l, ob, a, e, g, d⟩
    by_cases e1 : id = b
    · subst e1; rw [Inj.up_self] at a; cases a
      rcases hl with x | ⟨i, l, o, _, x⟩
      · omega
      · exact e ▸ ⟨i, l, o, x⟩
    · rw [Inj.up_ne _ _ e1] at a; exact ⟨id, l, ob, a, e, g, d⟩
  · rintro c hc ⟨id, l, ob, z, a, e, g, d⟩
    by_cases e1 : id = b
    · subst e1; rw [Inj.up_self] at a; cases a
      rcases hl with x | x
      · omega
      · exact e ▸ x
    · rw [Inj.up_ne _ _ e1] at a; exact ⟨id, l, ob, z, a, e, g, d⟩

/-- the model's append of given cells -/
structure AppRun (P : Program) (argT : Array TypeId) (ty e : TypeId) (z : Value) (size bytes : Nat) (w : World) (y' : Value) (new' : Array Value) (n : Nat) : Prop where
  in_ : ∀ base len cap w', len + n ≤ cap → (∀ a, base = some a → (storeCells (a.add (len * size)) new'.toList).run P w = .ok () w') → (base = none → w' = w) →
    (Builtin.append_ argT ty #[.slice base len cap, y']).run P w = .ok (.slice base (len + n) cap) w'
  out : ∀ base len cap old, (∀ w1, WSame w w1 → (Builtin.firstCells size len (.slice base len cap)).run P w1 = .ok old w1) → cap < len + n → (len + n) * bytes ≤ 1000000000 → len + n ≤ 1000000000 →
    ∃ nc d, len + n ≤ nc ∧ (Builtin.append_ argT ty #[.slice base len cap, y']).run P w =
      .ok (.slice (some ⟨w.heap.size, 0, none⟩) (len + n) nc) { w with heap := w.heap.push (.cells (old ++ new' ++ Builtin.zeroCells z.cells (nc - (len + n))) e), drawn := d }

/-- what an append adds -/
def ResPost (P : Program) (hb : Nat) (ι : Inj) (s : S) (w : World) (r : Sem Value) : OR → Prop
  | .val v s' => ∃ ι' w' v', r.run P w = .ok v' w' ∧ VRel ι' v v' ∧ SRel P ι' s' w' ∧ Fm hb ι s w ι' s' w'
  | .bad _ => True
  | _ => False

theorem VRelL.get_size {ι : Inj} {l l' : List Value} (h : VRelL ι l l') : l'.length = l.length := h.length.symm

theorem newB_out {ι : Inj} {e : TypeId} {cs : List Value} {cells : Array Value} {extra : Array Value} (k : Nat) (h : VRelL ι cs cells.toList) :
    ORel P ι ⟨k, 0, (cells ++ extra).size⟩ (newB e cs) (.cells (cells ++ extra) e) := by
  have hl := h.length
  simp only [Array.length_toList] at hl
  refine newB_rel k ?_ (by simp; omega) rfl (.inl rfl)
  simp only [Array.toList_append]
  rw [hl, ← Array.length_toList, List.take_left]
  exact h

theorem blk_of_newB {ι : Inj} {l : Loc} {e : TypeId} {cs : List Value} {o' : Obj} {q : Option Nat} {st : Nat} (h : ORel P ι l (newB e cs) o') : ORel P ι l (.blk ⟨T.ofList cs 0 .leaf, cs.length, e, q, st⟩) o' := by
  unfold newB at h
  cases h with
  | dead _ a => omega
  | blk a b c d => exact .blk a b c d

theorem load_run (h : SRel P ι s w) {a : Addr} {n len cap c' off' : Nat} {l : Loc} {vs : List Value} (hi : ι a.block = some l) (hc : s.load a.block a.off (len * n) = some vs)
    (hle : len ≤ c') (hoff : c' ≠ 0 → off' = l.base + a.off) :
    ∃ vs' : Array Value, VRelL ι vs vs'.toList ∧ vs'.size = len * n ∧ ∀ w1, WSame w w1 → (Builtin.firstCells n len (.slice (some ⟨l.blk, off', none⟩) len cap)).run P w1 = .ok vs' w1 := by
  obtain ⟨vs', h1, h2, h3⟩ := load_rel h hi hc
  refine ⟨vs'.toArray, by simpa using h1, by simpa using h2, fun w1 hw => ?_⟩
  simp only [Builtin.firstCells]
  by_cases h0 : c' = 0
  · have : len = 0 := by omega
    subst this
    simp only [Nat.zero_mul] at h2 ⊢
    have : vs' = [] := List.eq_nil_of_length_eq_zero h2
    subst this
    simp [loadCells, loadCellsFrom]
  · rw [hoff h0, ← h2]
    refine run_loadCells_list _ _ _ fun j v hj => ?_
    rw [← h3 j v hj]
    simp only [World.cell?, hw.heap]

theorem loadS (h : SRel P ι s w) {b off n : Nat} {l : Loc} {vs : List Value} (hi : ι b = some l) (hc : s.load b off n = some vs) :
    vs.length = n ∧ True ∧ ∀ cells e fr, w.heap[l.blk]? = some (.cells cells e fr) → ∀ i v, vs[i]? = some v → ∃ v', cells[l.base + (off + i)]? = some v' ∧ VRel ι v v' := by
  unfold S.load at hc
  cases hb : s.blk? b with
  | none => simp [hb] at hc
  | some x =>
    obtain ⟨c, m, e, p, st⟩ := x
    simp only [hb] at hc
    cases hk : Nat.blt st 2 && Nat.ble (Nat.add off n) m with
    | false => rw [hk] at hc; cases hc
    | true =>
      rw [hk] at hc; simp only [cond_true] at hc
      simp only [Bool.and_eq_true, Nat.blt_eq, Nat.ble_eq] at hk
      obtain ⟨hst, hle⟩ := hk
      obtain ⟨h1, h2⟩ := loadL_spec hc
      rw [S.blk?_eq] at hb
      obtain ⟨cells, fr, q1, q2, q3, q4, q5⟩ := h.row hi hb hst
      refine ⟨h1, trivial, fun cells' e' fr' hh i v hv => ?_⟩
      rw [q1] at hh; cases hh
      have hlt : i < n := by rw [← h1]; exact (List.getElem?_eq_some_iff.1 hv).1
      obtain ⟨v0, x1, x2⟩ := h2 i hlt
      rw [hv] at x2; cases x2
      have hle' : off + n ≤ m := hle
      exact q4 (off + i) v x1 (by omega)

theorem symRowMk_spec {row len off : Nat} (hl : len < 16777216) (ho : off < 1048576) : symCode (symRowMk row len off) = 15 ∧ symRow (symRowMk row len off) = row ∧ symLen (symRowMk row len off) = len ∧ symOff (symRowMk row len off) = off := by
  have e1 : ∀ a b : Nat, Nat.div a b = a / b := fun _ _ => rfl
  have e2 : ∀ a b : Nat, Nat.mod a b = a % b := fun _ _ => rfl
  have e : symRowMk row len off = (row * 16777216 + len) * 16777216 + (15 * 1048576 + off) := rfl
  rw [e]
  simp only [symCode, symRow, symLen, symOff, symId, e1, e2]
  refine ⟨by omega, by omega, by omega, by omega⟩

/-- others lie not in a row's block -/
theorem SRel.row_alone (h : SRel P ι s w) {r : Nat} {l : Loc} {e : TypeId} (hi : ι r = some l) (hg : s.h.get r = some (.row e)) {id2 : Nat} {l2 : Loc} {o2 : AObj} (hne : id2 ≠ r) (i2 : ι id2 = some l2) (hb : l2.blk = l.blk) (g2 : s.h.get id2 = some o2) : Dead o2 := by
  rcases h.alias id2 r l2 l o2 _ hne i2 hi hb g2 hg with x | x | x | x
  · exact x
  · simp [Dead] at x
  · by_cases hd : Dead o2
    · exact hd
    · obtain ⟨_, y⟩ := h.par id2 o2 r g2 (by rw [i2]; simp) hd x
      obtain ⟨b, e1, _⟩ := y _ hg
      cases e1
  · simp [Par] at x

theorem doAppendR_ok (h : SRel P ι s w) (hn : hb ≤ s.nx) (hlo : s.lo ≤ s.nx) {argT : Array TypeId} {ty e : TypeId} {z : Value} {size bytes : Nat} {y' : Value} {new : List Value} {new' : Array Value} {n : Nat}
    (hA : AppRun P argT ty e z size bytes w y' new' n) (hnew : VRelL ι new new'.toList) (hz : z.cells.size = size) {m : Nat} {x' : Value} (hx : VRel ι (.chan (some m)) x') :
    ResPost P hb ι s w (Builtin.append_ argT ty #[x', y']) (doAppendR s e size bytes m new n) := by
  unfold doAppendR
  cases hc : Nat.beq (symCode m) 15 && Nat.beq n 1 && Nat.beq size 1 && allCells new && Nat.beq new.length 1 && Nat.ble bytes 16 && Nat.blt (symOff m) 1000 with
  | false => trivial
  | true =>
    simp only [cond_true]
    simp only [Bool.and_eq_true, Nat.beq_eq, Nat.ble_eq, Nat.blt_eq] at hc
    obtain ⟨⟨⟨⟨⟨⟨hcode, rfl⟩, rfl⟩, hac⟩, hlen⟩, hby⟩, hoff⟩ := hc
    cases hg : s.h.get (symRow m) with
    | none => trivial
    | some ob =>
      cases ob with
      | row e' =>
        simp only []
        cases hc2 : Nat.beq e e' && Nat.ble s.lo (symRow m) with
        | false => trivial
        | true =>
          simp only [cond_true]
          simp only [Bool.and_eq_true, Nat.beq_eq, Nat.ble_eq] at hc2
          obtain ⟨rfl, hlor⟩ := hc2
          obtain ⟨l, lz, len, cap, hi, hiz, hnc, hct, hnl, hlz, rfl⟩ := hx.row_inv hcode
          obtain ⟨o', ho1, ho2⟩ := h.obj _ _ _ hi hg
          cases ho2 with
          | row hsz hfr =>
            rename_i cells fr
            have hfrn : ι s.nx = none := h.fresh _ (Nat.le_refl _)
            have hrne : symRow m ≠ s.nx := fun x => by rw [x, hfrn] at hi; cases hi
            have hn1 : new'.toList.length = 1 := by rw [hnew.get_size, hlen]
            have hlenL : symLen m < 16777216 := Nat.mod_lt _ (by omega)
            obtain ⟨s1, s2, s3, s4⟩ := symRowMk_spec (row := s.nx) (len := symLen m) (off := Nat.succ (symOff m)) hlenL (by omega)
            have hrow1 : ∀ (ι' : Inj) (l' : Loc) (n' c' : Nat), ι' s.nx = some l' → ι' (symLen m) = some lz → n' ≤ c' → l'.base + c' ≤ l'.top → n' ≤ lz.base + (symOff m + 1) →
                VRel ι' (.chan (some (symRowMk s.nx (symLen m) (Nat.succ (symOff m))))) (.slice (some ⟨l'.blk, l'.base, none⟩) n' c') := by
              intro ι' l' n' c' a b c d e1
              exact .row s1 (by rw [s2]; exact a) (by rw [s3]; exact b) c d (by rw [s4]; exact e1) hlz
            have hSd := h.forget (symRow m)
            have hpp := hSd.prepush (.row e)
            have hget : ∀ id, ((s.push (.row e)).drop (symRow m)).h.get id = ((s.drop (symRow m)).push (.row e)).h.get id := by
              intro id
              rw [S.drop_get, S.push_get, S.push_get, S.drop_get, S.drop_nx]
              by_cases e1 : id = symRow m
              · rw [if_pos e1, if_neg (by rw [e1]; exact hrne), if_pos e1]
              · rw [if_neg e1, if_neg e1]
            have hxz : ∀ (l' : Loc), (ι.up s.nx l') (symLen m) = some lz := fun l' => by
              rw [Inj.up_ne _ _ (fun x => by rw [x, hfrn] at hiz; cases hiz)]; exact hiz
            rcases Nat.lt_or_ge cap (len + 1) with hout' | hin'
            · -- a new block
              obtain ⟨old, hold, hcl⟩ : ∃ old : List Value, old.length = len ∧ ∀ j v, old[j]? = some v → cells[l.base + j]? = some v := by
                refine ⟨(cells.toList.drop l.base).take len, by simp; omega, fun j v hj => ?_⟩
                rw [List.getElem?_take] at hj
                by_cases hjl : j < len
                · rw [if_pos hjl, List.getElem?_drop] at hj
                  simpa using hj
                · rw [if_neg hjl] at hj; cases hj
              have hrd : ∀ w1, WSame w w1 → (Builtin.firstCells 1 len (.slice (some ⟨l.blk, l.base, none⟩) len cap)).run P w1 = .ok old.toArray w1 := by
                intro w1 hw
                simp only [Builtin.firstCells, Nat.mul_one]
                rw [← hold]
                refine run_loadCells_list _ _ _ fun j v hj => ?_
                have hadd : Addr.add ⟨l.blk, l.base, none⟩ j = ⟨l.blk, l.base + j, none⟩ := by
                  unfold Addr.add
                  by_cases h0 : j = 0
                  · simp [h0]
                  · simp [h0]
                rw [hadd]
                have : w1.heap[l.blk]? = some (.cells cells e fr) := by rw [hw.heap]; exact ho1
                rw [cell_of_heap this]
                exact hcl j v hj
              obtain ⟨nc, d, q1, q2⟩ := hA.out (some ⟨l.blk, l.base, none⟩) len cap old.toArray hrd hout' (by
                have : (len + 1) * bytes ≤ (len + 1) * 16 := Nat.mul_le_mul_left _ hby
                omega) (by omega)
              have hpush := WPush.mkD w (.cells (old.toArray ++ new' ++ Builtin.zeroCells z.cells (nc - (len + 1))) e) d
              have htop : (old.toArray ++ new' ++ Builtin.zeroCells z.cells (nc - (len + 1))).size = nc := by
                rw [Array.size_append, Array.size_append, zeroCells_size, hz]
                have e1 : old.toArray.size = len := by simp [hold]
                have e2 : new'.size = 1 := by rw [← Array.length_toList]; exact hn1
                rw [e1, e2]; omega
              have hbl : ∀ (id2 : Nat) (l2 : Loc), ι id2 = some l2 → l2.blk ≠ w.heap.size := fun id2 l2 a e => by have := h.bound _ _ a; omega
              refine ⟨ι.up s.nx ⟨w.heap.size, 0, nc⟩, _, _, q2, hrow1 _ ⟨w.heap.size, 0, nc⟩ _ _ (Inj.up_self _ _ _) (hxz _) q1 (by simp) (by omega), ?_, ?_⟩
              · refine SRel.congrG (s := (s.drop (symRow m)).push (.row e)) ?_ hget (by rw [S.drop_nx, S.push_nx, S.push_nx, S.drop_nx])
                refine hpp.bind hfrn (o := .row e) (by rw [S.push_get, S.drop_nx, if_pos rfl]) (by rw [S.push_nx, S.drop_nx]; omega) (fun p hp => by simp [Par] at hp) hpush.other (by rw [hpush.size]; omega) (by rw [hpush.size]; exact Nat.lt_succ_self _) hpush.at_ (.row htop (.inl rfl)) ?_
                intro id2 l2 o2 a b _
                exact absurd b (hbl id2 l2 a)
              · have f1 := Fm.prepush h hn hlo (.row e)
                have f2 := f1.trans (Fm.bind (hb := hb) (l' := ⟨w.heap.size, 0, nc⟩) hfrn hn hpush.other (by rw [hpush.size]; omega) (.inl (Nat.le_refl _)) hpush.os hpush.out hpush.tape)
                exact f2.trans (Fm.forget (l := l) (by rw [Inj.up_ne _ _ hrne]; exact hi) (by rw [S.push_lo]; exact hlor) hb)
            · -- in place
              obtain ⟨w', r1, r2⟩ := run_storeCells_any (P := P) (b := l.blk) (off := l.base + len) new'.toList 0 cells w ho1 (by rw [hsz]; exact hfr.or) (by omega) (allCells_one hac hnew)
              simp only [Nat.add_zero] at r2
              have hrun := hA.in_ (some ⟨l.blk, l.base, none⟩) len cap w' hin' (fun a ha => by
                cases ha
                rw [Addr.add_none, Nat.mul_one]; exact r1) (fun h => by cases h)
              have hSw : SRel P ι (s.drop (symRow m)) w' := by
                refine hSd.touch r2 ?_
                intro id2 l2 o2 a b c
                have hne : id2 ≠ symRow m := fun x => by rw [S.drop_get, if_pos x] at c; cases c
                rw [S.drop_get, if_neg hne] at c
                have := h.row_alone hi hg hne a b c
                cases o2 with
                | blk bb => obtain ⟨c', m', e', p', st'⟩ := bb; exact .dead _ this
                | _ => simp [Dead] at this
              refine ⟨ι.up s.nx ⟨l.blk, l.base, l.top⟩, w', _, hrun, hrow1 _ ⟨l.blk, l.base, l.top⟩ _ _ (Inj.up_self _ _ _) (hxz _) hin' hct (by omega), ?_, ?_⟩
              · refine SRel.congrG (s := (s.drop (symRow m)).push (.row e)) ?_ hget (by rw [S.drop_nx, S.push_nx, S.push_nx, S.drop_nx])
                refine (hSw.prepush (.row e)).bind hfrn (o := .row e) (by rw [S.push_get, S.drop_nx, if_pos rfl]) (by rw [S.push_nx, S.drop_nx]; omega) (fun p hp => by simp [Par] at hp) (fun _ _ => rfl) (Nat.le_refl _) (by rw [r2.size]; exact h.bound _ _ hi) r2.at_
                  (.row (by rw [setAll_size]; exact hsz) hfr) ?_
                intro id2 l2 o2 a b c
                left
                have hid : id2 ≠ s.nx := fun x => by rw [x, hfrn] at a; cases a
                rw [S.push_get, S.drop_nx, if_neg hid] at c
                have hne : id2 ≠ symRow m := fun x => by rw [S.drop_get, if_pos x] at c; cases c
                rw [S.drop_get, if_neg hne] at c
                exact h.row_alone hi hg hne a b c
              · have hown : OwnedL ι s l.blk := ⟨symRow m, l, _, hlor, hi, rfl, hg, trivial⟩
                have f0 := Fm.touch (hb := hb) (ι := ι) (s := s) (w := w) (b := l.blk) ⟨symRow m, l, .row e, hi, rfl, hg, trivial⟩ r2
                have hSw0 : SRel P ι s w' ∨ True := .inr trivial
                have f1 : Fm hb ι s w' ι (s.push (.row e)) w' := by
                  refine { Fm.refl hb ι s w' with keep := ?_, own := ?_, ownL := ?_, absent := ?_, low := ?_, lo := S.push_lo _ _, nx := by rw [S.push_nx]; omega }
                  · intro id hi' hn'; exact ⟨hn', by rw [S.push_get, if_neg (by omega)]⟩
                  · rintro b _ ⟨id, l2, ob, a, e2, c, d⟩
                    have hid : id ≠ s.nx := fun x => by subst x; rw [hfrn] at a; cases a
                    rw [S.push_get, if_neg hid] at c; exact ⟨id, l2, ob, a, e2, c, d⟩
                  · rintro b _ ⟨id, l2, ob, z2, a, e2, c, d⟩
                    have hid : id ≠ s.nx := fun x => by subst x; rw [hfrn] at a; cases a
                    rw [S.push_get, if_neg hid] at c; exact ⟨id, l2, ob, by rwa [S.push_lo] at z2, a, e2, c, d⟩
                  · intro id hlt hg2; rw [S.push_get, if_neg (by omega)]; exact hg2
                  · intro id hlt; rw [S.push_get, if_neg (by omega)]
                have f2 := (f0.trans f1).trans (Fm.bind (hb := hb) (l' := ⟨l.blk, l.base, l.top⟩) hfrn hn (fun _ _ => rfl) (Nat.le_refl _)
                  (.inr ⟨symRow m, l, .row e, by rw [S.push_lo]; exact hlor, hi, rfl, by rw [S.push_get, if_neg hrne]; exact hg, trivial⟩) rfl rfl rfl)
                exact f2.trans (Fm.forget (l := l) (by rw [Inj.up_ne _ _ hrne]; exact hi) (by rw [S.push_lo]; exact hlor) hb)
      | _ => trivial

theorem doAppend_ok (h : SRel P ι s w) (hn : hb ≤ s.nx) (hlo : s.lo ≤ s.nx) {argT : Array TypeId} {ty e : TypeId} {z : Value} {size bytes : Nat} {y' : Value} {new : List Value} {new' : Array Value} {n : Nat}
    (hA : AppRun P argT ty e z size bytes w y' new' n) (hnew : VRelL ι new new'.toList) (hns : new.length = n * size) (hs0 : size ≠ 0) (hz : z.cells.size = size) {x x' : Value} (hx : VRel ι x x') :
    ResPost P hb ι s w (Builtin.append_ argT ty #[x', y']) (doAppend s e size bytes x new n) := by
  unfold doAppend
  cases x with
  | slice base len cap =>
    simp only []
    cases hc : Nat.ble (len + n) cap with
    | true =>
      simp only [cond_true]
      have hc' : len + n ≤ cap := Nat.le_of_ble_eq_true hc
      cases base with
      | none =>
        have e := hx.nilslice_inv; subst e
        refine ⟨ι, w, _, hA.in_ none len cap w hc' (fun a h => by cases h) (fun _ => rfl), .nilslice _ _, h, Fm.refl _ _ _ _⟩
      | some a =>
        simp only []
        cases hac : allCells new with
        | false => trivial
        | true =>
          simp only [cond_true]
          cases hst : s.store a.block (a.off + len * size) new with
          | none => trivial
          | some s' =>
            simp only []
            obtain ⟨l, off', c', hi, hnc, hcc, hex, hop, hoff, e⟩ := hx.slice_inv; subst e
            obtain ⟨w', r1, r2, r3, _⟩ := store_rel (hb := hb) h hi hst hnew hac
            refine ⟨ι, w', _, hA.in_ (some ⟨l.blk, off', none⟩) len c' w' (by omega) ?_ (fun h => by cases h), ?_, r2, r3⟩
            · rintro a' ha'; cases ha'
              rw [Addr.add_none]
              by_cases h0 : c' = 0
              · have h00 : n = 0 := by omega
                subst h00
                have : new'.toList = [] := List.eq_nil_of_length_eq_zero (by rw [hnew.get_size, hns, Nat.zero_mul])
                rw [this] at r1 ⊢
                simpa [storeCells] using r1
              · rw [hoff h0, Nat.add_assoc]; exact r1
            · obtain ⟨ab, ao, asp⟩ := a
              exact .slice hi hc' (by omega) hex hop hoff
    | false =>
      simp only [cond_false]
      have hc' : cap < len + n := by
        rcases Nat.lt_or_ge cap (len + n) with x | x
        · exact x
        · rw [Nat.ble_eq_true_of_le x] at hc; cases hc
      cases hbd : Nat.ble ((len + n) * bytes) 1000000000 && Nat.ble (cap * bytes) 1000000000 && Nat.ble (len + n) 1000000000 && Nat.ble cap 1000000000 with
      | false => trivial
      | true =>
        simp only [cond_true]
        simp only [Bool.and_eq_true, Nat.ble_eq] at hbd
        obtain ⟨⟨⟨hb1, _⟩, hb3⟩, _⟩ := hbd
        -- a new block
        have hout : ∀ (base' : Option Addr) (c' : Nat) (old : List Value) (old' : Array Value), VRelL ι old old'.toList → old.length = len * size →
            (∀ w1, WSame w w1 → (Builtin.firstCells size len (.slice base' len c')).run P w1 = .ok old' w1) → c' < len + n →
            ∃ nc d ex, len + n ≤ nc ∧ (old' ++ new' ++ ex).size = nc * size ∧ (Builtin.append_ argT ty #[.slice base' len c', y']).run P w =
              .ok (.slice (some ⟨w.heap.size, 0, none⟩) (len + n) nc) { w with heap := w.heap.push (.cells (old' ++ new' ++ ex) e), drawn := d } := by
          intro base' c' old old' ho hol hf hlt
          obtain ⟨nc, d, h1, h2⟩ := hA.out base' len c' old' hf hlt hb1 hb3
          refine ⟨nc, d, _, h1, ?_, h2⟩
          have e1 : old'.size = len * size := by rw [← hol, ← Array.length_toList, ho.get_size]
          have e2 : new'.size = n * size := by rw [← hns, ← Array.length_toList, hnew.get_size]
          rw [Array.size_append, Array.size_append, e1, e2, zeroCells_size, hz, ← Nat.add_mul, ← Nat.add_mul]
          congr 1; omega
        -- and what stands for it
        have hnb : ∀ (s1 : S) (old : List Value) (old' : Array Value) (nc d : Nat) (ex : Array Value) (base' : Option Addr) (c' : Nat) (q : Option Nat), VRelL ι old old'.toList → SRel P ι s1 w → Fm hb ι s w ι s1 w → s1.nx = s.nx → s1.lo = s.lo →
            (∀ p, q = some p → ι p ≠ none ∧ ∀ o', s1.h.get p = some o' → ∃ bb : Blk, o' = .blk bb ∧ bb.st ≠ 0) →
            len + n ≤ nc → (old' ++ new' ++ ex).size = nc * size →
            (Builtin.append_ argT ty #[.slice base' len c', y']).run P w =
              .ok (.slice (some ⟨w.heap.size, 0, none⟩) (len + n) nc) { w with heap := w.heap.push (.cells (old' ++ new' ++ ex) e), drawn := d } →
            ResPost P hb ι s w (Builtin.append_ argT ty #[.slice base' len c', y']) (.val (openS size s.nx (len + n) (len + n)) (s1.push (.blk ⟨T.ofList (old ++ new) 0 .leaf, (old ++ new).length, e, q, 0⟩))) := by
          intro s1 old old' nc d ex base' c' q ho h1 f1 nx1 lo1 hq hnc hsz hrun
          have hrel : VRelL ι (old ++ new) (old' ++ new').toList := by simpa using ho.append hnew
          have hfr : ι s.nx = none := h.fresh _ (Nat.le_refl _)
          have hpush := WPush.mkD w (.cells (old' ++ new' ++ ex) e) d
          have hbl : ∀ (id2 : Nat) (l2 : Loc), ι id2 = some l2 → l2.blk ≠ w.heap.size := fun id2 l2 a e => by have := h.bound _ _ a; omega
          refine ⟨ι.up s.nx ⟨w.heap.size, 0, nc * size⟩, _, _, hrun, ?_, ?_, ?_⟩
          · refine .slice (Inj.up_self _ _ _) (Nat.le_refl _) hnc (by intro h; cases h) ?_ (fun _ => rfl)
            intro z' hz' _
            cases hz'
            simp
          · refine (h1.prepush _).bind hfr (o := .blk ⟨T.ofList (old ++ new) 0 .leaf, (old ++ new).length, e, q, 0⟩) (by rw [S.push_get, nx1, if_pos rfl]) (by rw [S.push_nx, nx1]; omega) ?_ hpush.other (by rw [hpush.size]; omega) (by rw [hpush.size]; exact Nat.lt_succ_self _) hpush.at_ ?_ ?_
            · intro p hp
              simp only [Par] at hp
              obtain ⟨a, b⟩ := hq p hp
              refine ⟨a, fun o' ho' => b o' ?_⟩
              rw [S.push_get, if_neg (fun e => a (by rw [e, nx1]; exact hfr))] at ho'; exact ho'
            · have := newB_out (P := P) (ι := ι) (e := e) (extra := ex) w.heap.size hrel
              rw [hsz] at this
              exact (blk_of_newB this).mono (Ext.up _ hfr)
            · intro id2 l2 o2 a b _
              exact absurd b (hbl id2 l2 a)
          · refine (f1.trans (Fm.prepush h1 (by rw [nx1]; exact hn) (by rw [nx1, lo1]; exact hlo) (.blk ⟨T.ofList (old ++ new) 0 .leaf, (old ++ new).length, e, q, 0⟩))).trans ?_
            exact Fm.bind hfr hn hpush.other (by rw [hpush.size]; omega) (.inl (Nat.le_refl _)) hpush.os hpush.out hpush.tape
        cases base with
        | none =>
          have e := hx.nilslice_inv; subst e
          simp only []
          cases hl0 : Nat.beq len 0 with
          | false => trivial
          | true =>
            simp only [cond_true]
            have hl0' : len = 0 := Nat.eq_of_beq_eq_true hl0
            subst hl0'
            obtain ⟨nc, d, ex, q1, q2, q3⟩ := hout none cap [] #[] .nil (by simp) (fun w1 _ => rfl) hc'
            have := hnb s [] #[] nc d ex none cap none .nil h (Fm.refl _ _ _ _) rfl rfl (fun p hp => by cases hp) q1 q2 q3
            simpa [newB] using this
        | some a =>
          obtain ⟨l, off', c', hi, hnc, hcc, hex, hop, hoff, ee⟩ := hx.slice_inv; subst ee
          simp only []
          cases hld : s.load a.block a.off (len * size) with
          | none => trivial
          | some old =>
            simp only []
            obtain ⟨old', o1, o2, o3⟩ := load_run (cap := c') h hi hld (by omega) hoff
            have o4 : old.length = len * size := by rw [← o2, ← Array.length_toList, o1.get_size]
            cases hsp : a.spot with
            | none =>
              simp only []
              have hcc' := hex hsp; subst hcc'
              obtain ⟨nc, d, ex, q1, q2, q3⟩ := hout (some ⟨l.blk, off', none⟩) _ old old' o1 o4 o3 hc'
              exact hnb s old old' nc d ex _ _ none o1 h (Fm.refl _ _ _ _) rfl rfl (fun p hp => by cases hp) q1 q2 q3
            | some zz =>
              simp only []
              cases hbk : s.blk? a.block with
              | none => trivial
              | some bk =>
                obtain ⟨c, m, e', p, st⟩ := bk
                simp only []
                cases hcond : Nat.beq st 0 && Nat.beq m (a.off + len * size) && Nat.beq zz size && Nat.beq e e' && allCells new && Nat.ble s.lo a.block with
                | false => trivial
                | true =>
                  simp only [cond_true]
                  simp only [Bool.and_eq_true, Nat.beq_eq, Nat.ble_eq] at hcond
                  obtain ⟨⟨⟨⟨⟨rfl, rfl⟩, rfl⟩, rfl⟩, hac⟩, hlo2⟩ := hcond
                  cases hk : s.kill p with
                  | none => trivial
                  | some s1 =>
                    simp only []
                    rw [S.blk?_eq] at hbk
                    obtain ⟨k1, k2, k3, k4, k5, k6, k7⟩ := h.killed (hb := hb) (x := ⟨c, _, e, p, 0⟩) (by rw [hi]; simp) hbk rfl hk
                    obtain ⟨cells, fr, h1, hsz, htop, h4, hfr⟩ := h.row hi hbk (by omega)
                    rw [k3]
                    have hne : s.nx ≠ a.block := fun x => by rw [← x, h.fresh _ (Nat.le_refl _)] at hi; cases hi
                    have hfrn : ι s.nx = none := h.fresh _ (Nat.le_refl _)
                    rcases Nat.lt_or_ge c' (len + n) with hout' | hin'
                    · -- a new block
                      obtain ⟨nc, d, ex, q1, q2, q3⟩ := hout (some ⟨l.blk, off', none⟩) _ old old' o1 o4 o3 hout'
                      have hput : WPut w w l.blk (.cells cells e fr) := ⟨h1, fun _ _ => rfl, rfl, rfl, rfl, rfl⟩
                      refine hnb (s1.put a.block (.blk ⟨c, _, e, none, 1⟩)) old old' nc d ex _ _ (some a.block) o1 ?_ ?_ (by rw [S.put_nx, k3]) (by rw [S.put_lo, k4]) ?_ q1 q2 q3
                      · exact k1.put hi k5 (fun q => by simp [Par]) (fun id2 l2 o2 a b' c' d => k6 id2 l l2 o2 hi a b' c' d) k7 hput (.blk hsz htop h4 hfr)
                      · exact k2.trans (Fm.put hi k5 (by simp [NotHole]) (by rw [k4]; exact hlo2) hput)
                      · rintro p' hp'; cases hp'
                        refine ⟨by rw [hi]; simp, fun o' ho' => ?_⟩
                        rw [S.put_get, if_pos rfl] at ho'; cases ho'
                        exact ⟨_, rfl, by simp⟩
                    · -- in place
                      have hc0 : c' ≠ 0 := by omega
                      have hroom := hop _ hsp hc0
                      have hoff' := hoff hc0
                      have hneed : (len + n) * zz ≤ c' * zz := Nat.mul_le_mul_right _ hin'
                      rw [Nat.add_mul] at hneed
                      have hnl : new'.toList.length = n * zz := by rw [hnew.get_size, hns]
                      obtain ⟨w', r1, r2⟩ := run_storeCells_any (P := P) (b := l.blk) (off := off' + len * zz) new'.toList 0 cells w h1 (by rw [hsz]; exact hfr.or) (by omega) (allCells_one hac hnew)
                      simp only [Nat.add_zero] at r2
                      have hS1 := k1.put hi k5 (o := .blk ⟨c, a.off + len * zz, e, none, 1⟩) (fun q => by simp [Par]) (fun id2 l2 o2 a b' c' d => k6 id2 l l2 o2 hi a b' c' d) k7 r2
                        (.blk (by rw [setAll_size]; exact hsz) htop (fun i v hv hn => by
                          rw [setAll_get _ _ _ _ (by omega), if_neg (by omega)]
                          exact h4 i v hv hn) hfr)
                      have hF1 := k2.trans (Fm.put (hb := hb) hi k5 (o := .blk ⟨c, a.off + len * zz, e, none, 1⟩) (by simp [NotHole]) (by rw [k4]; exact hlo2) r2)
                      generalize hs2 : s1.put a.block (.blk ⟨c, a.off + len * zz, e, none, 1⟩) = s2 at hS1 hF1 ⊢
                      have hnx2 : s2.nx = s.nx := by rw [← hs2, S.put_nx, k3]
                      have hlo2' : s2.lo = s.lo := by rw [← hs2, S.put_lo, k4]
                      have hg2 : s2.h.get a.block = some (.blk ⟨c, a.off + len * zz, e, none, 1⟩) := by rw [← hs2, S.put_get, if_pos rfl]
                      have hg3 : ∀ id, id ≠ a.block → s2.h.get id = s1.h.get id := fun id hid => by rw [← hs2, S.put_get, if_neg hid]
                      have hlast : l.blk < w'.heap.size := by rw [r2.size]; exact h.bound _ _ hi
                      refine ⟨ι.up s.nx ⟨l.blk, l.base + a.off, l.top⟩, w', _, hA.in_ (some ⟨l.blk, off', none⟩) len c' w' hin' ?_ (fun h => by cases h), ?_, ?_, ?_⟩
                      · rintro a' ha'; cases ha'
                        rw [Addr.add_none]; exact r1
                      · refine .slice (l := ⟨l.blk, l.base + a.off, l.top⟩) (Inj.up_self _ _ _) (Nat.le_refl _) hin' (by intro h; cases h) ?_ (fun _ => by simp [hoff'])
                        intro z' hz' _
                        cases hz'
                        simpa using hroom
                      · refine (hS1.prepush _).bind hfrn (o := .blk ⟨T.ofList (old ++ new) 0 .leaf, (old ++ new).length, e, some a.block, 0⟩) (by rw [S.push_get, hnx2, if_pos rfl]) (by rw [S.push_nx, hnx2]; omega) ?_ (fun _ _ => rfl) (Nat.le_refl _) hlast r2.at_ ?_ ?_
                        · rintro p' hp'
                          simp only [Par, Option.some.injEq] at hp'; subst hp'
                          refine ⟨by rw [hi]; simp, fun o' ho' => ?_⟩
                          rw [S.push_get, if_neg (by rw [hnx2]; exact Ne.symm hne), hg2] at ho'; cases ho'
                          exact ⟨_, rfl, by simp⟩
                        · refine ORel.mono (Ext.up _ hfrn) ?_
                          have hol : old'.toList.length = len * zz := by simpa using o2
                          refine .blk (by rw [setAll_size]; exact hsz) (by simp only [List.length_append]; omega) ?_ hfr
                          intro i v hv hil
                          rw [T.get_ofList] at hv
                          simp only [Nat.zero_le, true_and, Nat.zero_add] at hv
                          rw [if_pos hil] at hv
                          simp only [Nat.sub_zero] at hv
                          simp only [List.length_append] at hil
                          dsimp only
                          rw [setAll_get _ _ _ _ (by omega)]
                          by_cases hi2 : i < old.length
                          · rw [if_neg (by omega)]
                            rw [List.getElem?_append_left hi2] at hv
                            obtain ⟨_, _, hl3⟩ := loadS h hi hld
                            obtain ⟨v', x1, x2⟩ := hl3 cells e fr h1 i v hv
                            exact ⟨v', by rw [Nat.add_assoc]; exact x1, x2⟩
                          · rw [List.getElem?_append_right (by omega)] at hv
                            rw [if_pos (by omega)]
                            obtain ⟨v', x1, x2⟩ := hnew.get hv
                            exact ⟨v', by rw [← x1]; congr 1; omega, x2⟩
                        · intro id2 l2 o2 ha hb2 hg
                          have hid : id2 ≠ s.nx := fun x => by rw [x, hfrn] at ha; cases ha
                          rw [S.push_get, if_neg (by rw [hnx2]; exact hid)] at hg
                          by_cases e2 : id2 = a.block
                          · subst e2; exact .inr rfl
                          · rw [hg3 id2 e2] at hg
                            exact .inl (k6 id2 l l2 o2 hi e2 ha hb2 hg)
                      · refine (hF1.trans (Fm.prepush hS1 (by rw [hnx2]; exact hn) (by rw [hnx2, hlo2']; exact hlo) (.blk ⟨T.ofList (old ++ new) 0 .leaf, (old ++ new).length, e, some a.block, 0⟩))).trans ?_
                        refine Fm.bind hfrn hn (fun _ _ => rfl) (Nat.le_refl _) (.inr ⟨a.block, l, (.blk ⟨c, a.off + len * zz, e, none, 1⟩), by rw [S.push_lo, hlo2']; exact hlo2, hi, rfl, by rw [S.push_get, if_neg (by rw [hnx2]; exact Ne.symm hne)]; exact hg2, by simp [NotHole]⟩) rfl rfl rfl
  | chan q =>
    cases q with
    | none => trivial
    | some m => exact doAppendR_ok h hn hlo hA hnew hz hx
  | _ => trivial

theorem strBytes_app {ι : Inj} (b : ByteArray) : VRelL ι (strBytes b.data.toList) (((b.extract 0 b.size).data.map fun x => Value.int .u8 x.toNat).toList) := by
  have h : ∀ l : List UInt8, VRelL ι (strBytes l) (l.map fun x => Value.int .u8 x.toNat) := by
    intro l
    induction l with
    | nil => exact .nil
    | cons a l ih => exact .cons (.int _ _) ih
  have e : (b.extract 0 b.size).data = b.data := by simp [ByteArray.extract_zero_size]
  rw [e]
  simpa using h b.data.toList

theorem srcOf_ok (h : SRel P ι s w) {size : Nat} {y y' : Value} {new : List Value} {n : Nat} (hs : srcOf s size y = some (new, n)) (hy : VRel ι y y') :
    ∃ new' : Array Value, VRelL ι new new'.toList ∧ new.length = n * size ∧ (Builtin.lenOf y').run P w = .ok n w ∧ ∀ w1, WSame w w1 → (Builtin.firstCells size n y').run P w1 = .ok new' w1 := by
  cases y with
  | slice a k c =>
    cases a with
    | none =>
      simp only [srcOf] at hs
      cases hb : Nat.beq k 0 with
      | false => simp [hb] at hs
      | true =>
        simp only [hb, cond_true, Option.some.injEq, Prod.mk.injEq] at hs
        obtain ⟨rfl, rfl⟩ := hs
        have := Nat.eq_of_beq_eq_true hb; subst this
        have := hy.nilslice_inv; subst this
        exact ⟨#[], .nil, by simp, by simp [Builtin.lenOf], fun _ _ => by simp [Builtin.firstCells]⟩
    | some a =>
      simp only [srcOf] at hs
      cases hl : s.load a.block a.off (k * size) with
      | none => simp [hl] at hs
      | some l0 =>
        simp only [hl, Option.some.injEq, Prod.mk.injEq] at hs
        obtain ⟨rfl, rfl⟩ := hs
        obtain ⟨l, off', c', hi, hnc, hcc, hex, hop, hoff, e⟩ := hy.slice_inv; subst e
        obtain ⟨old', o1, o2, o3⟩ := load_run (cap := c') h hi hl (by omega) hoff
        exact ⟨old', o1, by rw [← o2, ← Array.length_toList, o1.get_size], by simp [Builtin.lenOf], o3⟩
  | string b =>
    simp only [srcOf] at hs
    cases hb1 : Nat.beq size 1 with
    | false => simp [hb1] at hs
    | true =>
    simp only [hb1, cond_true, Option.some.injEq, Prod.mk.injEq] at hs
    obtain ⟨rfl, rfl⟩ := hs
    have := hy.string_inv; subst this
    have := Nat.eq_of_beq_eq_true hb1; subst this
    have hr := strBytes_app (ι := ι) b
    exact ⟨_, hr, by rw [hr.length]; simp, by simp [Builtin.lenOf], fun _ _ => by simp [Builtin.firstCells]⟩
  | _ => simp [srcOf] at hs

theorem ResPost.hd {r : Sem Value} {ρ : Operand → Value} {x : OR} (h : ResPost P hb ι s w r x) (he : ∀ v w', r.run P w = .ok v w' → (execOp ρ o).run P w = .ok (.value v) w') : HdPost P hb ι s w ρ o x := by
  cases x with
  | val v s' =>
    obtain ⟨ι', w', v', a, b, c, d⟩ := h
    exact ⟨ι', w', v', .inl (he _ _ a), b, c, d⟩
  | bad n => trivial
  | _ => exact False.elim h

theorem ok_append {c : Call} (ho : o.op = .call c) (hc : c.callee = .builtin .append) : RunOk P o (appendR P c) := by
  unfold appendR
  cases ht : c.argTypes[0]? with
  | none => exact RunOk.no _ _
  | some t =>
    cases ha : c.args.toList with
    | nil => exact RunOk.no _ _
    | cons x l =>
      cases l with
      | nil => exact RunOk.no _ _
      | cons y l =>
        cases l with
        | cons _ _ => exact RunOk.no _ _
        | nil =>
          simp only []
          cases hse : sliceElem P t with
          | none => exact RunOk.no _ _
          | some e =>
            simp only []
            cases hi : P.info? e with
            | none => exact RunOk.no _ _
            | some i =>
              simp only []
              cases hz : i.zero with
              | none => exact RunOk.no _ _
              | some z =>
                simp only []
                cases hk : plainV z && Nat.beq z.cells.size i.size && !Nat.beq i.size 0 && !Nat.beq i.bytes 0 && opdOk x && opdOk y && typeOk P c.argTypes[1]? with
                | false => exact RunOk.no _ _
                | true =>
                  simp only [cond_true]
                  simp only [Bool.and_eq_true, Nat.beq_eq, Bool.not_eq_true'] at hk
                  obtain ⟨⟨⟨⟨⟨⟨hpl, hzs⟩, hs0'⟩, _⟩, hx⟩, hy⟩, hty⟩ := hk
                  have hs0 : i.size ≠ 0 := fun e => by rw [e] at hs0'; cases hs0'
                  have hu := sliceElem_eq hse
                  have hsec := second_of hty
                  have hrun : ∀ ρ w v w', (Builtin.append_ c.argTypes o.type #[ρ x, ρ y]).run P w = .ok v w' → (execOp ρ o).run P w = .ok (.value v) w' := by
                    intro ρ w v w' h
                    rw [call_builtin ho hc, args_of ha]
                    simp [builtin, h]
                  cases hint : isIntT P c.argTypes[1]? with
                  | true =>
                    rw [hint] at hsec
                    intro hb ι s w g ρ hS hn hlo hr
                    have hrx : VRel ι (ev g x) (ρ x) := hr x (by simp [ho, Op.operands, Call.operands, hc, args_of ha]) hx
                    have hry : VRel ι (ev g y) (ρ y) := hr y (by simp [ho, Op.operands, Call.operands, hc, args_of ha]) hy
                    simp only []
                    cases he : ev g y with
                    | int kk k =>
                      simp only [he]
                      cases hcd : inR 0 1000000 k && Nat.ble (k.toNat * i.bytes) 1000000000 with
                      | false => trivial
                      | true =>
                        simp only [cond_true]
                        simp only [inR, Bool.and_eq_true, decide_eq_true_eq, Nat.ble_eq] at hcd
                        obtain ⟨⟨h0, h1⟩, h2⟩ := hcd
                        obtain ⟨n, rfl⟩ := Int.eq_ofNat_of_zero_le h0
                        have hnm : n ≤ 1000000 := by omega
                        simp only [Int.toNat_natCast] at h2 ⊢
                        rw [he] at hry
                        have e1 := hry.int_inv
                        have hzc : (Builtin.zeroCells z.cells n).toList = repL n z.cells.toList := zeroCells_eq n (by rw [hzs]; exact hs0)
                        refine ResPost.hd (doAppend_ok (new' := Builtin.zeroCells z.cells n) hS hn hlo (z := z) (y' := ρ y) ⟨?_, ?_⟩ ?_ ?_ hs0 hzs hrx) (hrun ρ w)
                        · intro base len cap w' q1 q2 q3
                          rw [e1]
                          exact run_append_in0 ht hu hi hz hsec hnm h2 q1 hs0 q2 q3
                        · intro base len cap old q1 q2 q3 q4
                          rw [e1]
                          exact run_append_out0 ht hu hi hz hsec hnm h2 hs0 q1 q2 q3 q4
                        · rw [hzc]; exact repL_rel n (plain_cells hpl ι)
                        · rw [repL_length, Array.length_toList, hzs]
                    | _ => simp only [he]; trivial
                  | false =>
                    rw [hint] at hsec
                    intro hb ι s w g ρ hS hn hlo hr
                    have hrx : VRel ι (ev g x) (ρ x) := hr x (by simp [ho, Op.operands, Call.operands, hc, args_of ha]) hx
                    have hry : VRel ι (ev g y) (ρ y) := hr y (by simp [ho, Op.operands, Call.operands, hc, args_of ha]) hy
                    simp only []
                    cases hsr : srcOf s i.size (ev g y) with
                    | none => trivial
                    | some nk =>
                      obtain ⟨new, n⟩ := nk
                      simp only []
                      obtain ⟨new', q1, q2, q3, q4⟩ := srcOf_ok hS hsr hry
                      refine ResPost.hd (doAppend_ok (new' := new') hS hn hlo (z := z) (y' := ρ y) ⟨?_, ?_⟩ q1 q2 hs0 hzs hrx) (hrun ρ w)
                      · intro base len cap w' r1 r2 r3
                        exact run_append_in ht hu hi hsec q3 (q4 w (WSame.refl w)) r1 r2 r3
                      · intro base len cap old r1 r2 r3 r4
                        exact run_append_out ht hu hi hz hsec q3 q4 r1 r2 r3 r4

end Go.AM
/- 'copy' and 'delete'. -/
namespace Go.AM
variable {P : Program} {o : Oper} {ι : Inj} {s : S} {w w' : World} {hb : Nat}

/-! ### delete -/

theorem delK_spec {kk : KeyKind} {k : Value} (h0 : keyOk kk k = true) : ∀ {es es2 : List (Value × Value)}, delK kk k es = some es2 → (∀ p ∈ es, keyOk kk p.1 = true) →
    (es2 = es ∧ ∀ p ∈ es, p.1 ≠ k) ∨ (∃ a u b, es = a ++ (k, u) :: b ∧ es2 = a ++ b)
  | [], es2, h, _ => by simp only [delK, Option.some.injEq] at h; subst h; exact .inl ⟨rfl, by simp⟩
  | (k', v') :: es, es2, h, hk => by
    obtain ⟨b, _, e2, e3, e4⟩ := key_spec h0 (hk (k', v') (by simp))
    simp only [delK, e2] at h
    cases b with
    | true =>
      simp only [Option.some.injEq] at h; subst h
      have := e3.1 rfl
      subst this
      exact .inr ⟨[], v', es, rfl, rfl⟩
    | false =>
      simp only [] at h
      cases hp : delK kk k es with
      | none => simp [hp] at h
      | some l =>
        simp only [hp, Option.some.injEq] at h; subst h
        rcases delK_spec h0 hp (fun p hp => hk p (by simp [hp])) with ⟨a, b⟩ | ⟨a, u, b, c, d⟩
        · refine .inl ⟨by rw [a], fun p hp => ?_⟩
          rcases List.mem_cons.1 hp with rfl | hm
          · exact fun e => (e4 rfl).ne e.symm
          · exact b p hm
        · exact .inr ⟨(k', v') :: a, u, b, by rw [c]; rfl, by rw [d]; rfl⟩

/-- the model's map without the entry -/
def delObj (res : Option (Nat × Value)) (es' : Array MapEntry) (clk : Nat) : Obj :=
  match res with
  | some (i, _) => .map (es'.eraseIdxIfInBounds i) clk
  | none => .map es' clk

theorem map_del_rel {kk : KeyKind} {k : Value} (h0 : keyOk kk k = true) {es es2 : List (Value × Value)} (hp : delK kk k es = some es2) (hks : ∀ p ∈ es, keyOk kk p.1 = true) {es' : Array MapEntry} {lst : List MapEntry} {clk : Nat}
    (hperm : lst.Perm es'.toList) (hr : EsRel ι es lst) (hpw : es.Pairwise (fun a b => KeyNe a.1 b.1)) (hb : ∀ e ∈ es'.toList, e.born < clk) (hnd : (es'.toList.map (·.born)).Nodup)
    {kt : TypeId} (hkk : keyKind P kt = some kk) (w : World) (l : Loc) :
    ∃ res, (Instr.findKey kt k es'.toList).run P w = .ok res w ∧ ORel P ι l (.map es2 clk) (delObj res es' clk) := by
  rcases run_findKey hkk h0 hperm hr hpw hks w with ⟨u, j, e, hm, hj, hke, hue, hrun⟩ | ⟨hno, hno', hrun⟩
  · refine ⟨some (j, e.val), hrun, ?_⟩
    rcases delK_spec h0 hp hks with ⟨_, hne⟩ | ⟨a, u2, b, e1, e2⟩
    · exact absurd rfl (hne _ hm)
    · subst e1; subst e2
      obtain ⟨la, e0, lb, q1, q2, q3, q4, q5⟩ := hr.split
      have hk0 : e0.key = k := keyOk_vrel h0 q3
      have hmem : e ∈ lst := hperm.mem_iff.2 (List.mem_of_getElem? hj)
      have hee : e = e0 := pairwise_key_eq hpw hr hks hmem (by rw [q1]; simp) hke hk0
      subst hee
      simp only [delObj]
      have hjlt : j < es'.toList.length := by
        rcases Nat.lt_or_ge j es'.toList.length with x | x
        · exact x
        · rw [List.getElem?_eq_none x] at hj; cases hj
      have hsplit : es'.toList = es'.toList.take j ++ e :: es'.toList.drop (j + 1) := by
        rw [List.getElem?_eq_getElem hjlt] at hj
        have : es'.toList[j] = e := by simpa using hj
        rw [← this, ← List.drop_eq_getElem_cons hjlt, List.take_append_drop]
      have hmod : (es'.eraseIdxIfInBounds j).toList = es'.toList.take j ++ es'.toList.drop (j + 1) := by
        rw [Array.eraseIdxIfInBounds_eq]
        have : j < es'.size := by simpa using hjlt
        rw [dif_pos this, Array.toList_eraseIdx, List.eraseIdx_eq_take_drop_succ]
      refine .map (lst := la ++ lb) ?_ (q2.append q5) ?_ ?_ ?_
      · rw [hmod]
        have hp2 : (la ++ e :: lb).Perm (es'.toList.take j ++ e :: es'.toList.drop (j + 1)) := by rw [← hsplit, ← q1]; exact hperm
        exact List.Perm.cons_inv ((List.perm_middle.symm.trans hp2).trans List.perm_middle)
      · exact hpw.sublist (List.Sublist.append (List.Sublist.refl _) (List.sublist_cons_self _ _))
      · intro e2 he2
        rw [hmod] at he2
        rcases List.mem_append.1 he2 with x | x
        · exact hb e2 (List.mem_of_mem_take x)
        · exact hb e2 (List.mem_of_mem_drop x)
      · rw [hmod]
        rw [hsplit] at hnd
        refine hnd.sublist ?_
        rw [List.map_append, List.map_append]
        exact List.Sublist.append (List.Sublist.refl _) (by simp)
  · refine ⟨none, hrun, ?_⟩
    rcases delK_spec h0 hp hks with ⟨rfl, _⟩ | ⟨a, u2, b, e1, _⟩
    · exact .map hperm hr hpw hb hnd
    · exact absurd rfl (hno (k, u2) (by rw [e1]; simp))

theorem ok_delete {c : Call} (ho : o.op = .call c) (hc : c.callee = .builtin .delete) : RunOk P o (builtinR P .delete c) := by
  simp only [builtinR]
  cases ht : c.argTypes[0]? with
  | none => exact RunOk.no _ _
  | some t =>
    cases ha : c.args.toList with
    | nil => exact RunOk.no _ _
    | cons m l =>
      cases l with
      | nil => exact RunOk.no _ _
      | cons k l =>
        cases l with
        | cons _ _ => exact RunOk.no _ _
        | nil =>
          simp only []
          cases hu : P.underlying t with
          | none => exact RunOk.no _ _
          | some d =>
            cases d with
            | map kt et =>
              simp only []
              cases hkk : keyKind P kt with
              | none => exact RunOk.no _ _
              | some kk =>
                simp only []
                cases hx : opdOk m && opdOk k with
                | false => exact RunOk.no _ _
                | true =>
                  simp only [Bool.and_eq_true] at hx
                  intro hb ι s w g ρ hS hn hlo hr
                  have hrm : VRel ι (ev g m) (ρ m) := hr m (by simp [ho, Op.operands, Call.operands, hc, args_of ha]) hx.1
                  have hrk : VRel ι (ev g k) (ρ k) := hr k (by simp [ho, Op.operands, Call.operands, hc, args_of ha]) hx.2
                  simp only []
                  cases he : ev g m with
                  | map r =>
                    cases r with
                    | none => simp only []; trivial
                    | some r =>
                      simp only []
                      rw [he] at hrm
                      obtain ⟨l, hi, e⟩ := hrm.map_inv
                      cases hg : s.h.get r with
                      | none => trivial
                      | some ob =>
                        cases ob with
                        | map es clk =>
                          simp only []
                          cases hcd : keyOk kk (ev g k) && Nat.ble s.lo r && firstOk kk es with
                          | false => trivial
                          | true =>
                            simp only [cond_true]
                            simp only [Bool.and_eq_true, Nat.ble_eq] at hcd
                            cases hp : delK kk (ev g k) es with
                            | none => trivial
                            | some es2 =>
                              simp only []
                              obtain ⟨es', lst, h1, h2, h3, h4, h5, h6⟩ := hS.mapAt hi hg
                              have hks : ∀ p ∈ es, keyOk kk p.1 = true := keys_ok h4 (by
                                intro p l el; subst el; exact hcd.2)
                              have ek := keyOk_vrel hcd.1.1 hrk
                              obtain ⟨res, f1, f2⟩ := map_del_rel (P := P) hcd.1.1 hp hks h2 h3 h4 h5 h6 hkk w l
                              obtain ⟨s1, s2⟩ := setObj_run (P := P) (o1 := delObj res es' clk) h1 (by intro c e f h; cases h)
                              refine ⟨ι, _, .tuple #[], .inl ?_, .tuple .nil, hS.putO hi hg (by intro b h; cases h) (by intro p; simp [Par]) s2 f2, Fm.put hi hg trivial hcd.1.2 s2⟩
                              rw [call_builtin ho hc, args_of ha]
                              have hrun : (Builtin.delete_ c.argTypes o.type #[ρ m, ρ k]).run P w = .ok (.tuple #[]) { w with heap := w.heap.setIfInBounds l.blk (delObj res es' clk) } := by
                                simp only [Builtin.delete_, ht, e, ek]
                                cases res with
                                | none =>
                                  simp only [delObj] at s1 ⊢
                                  simp [run_underlying hu, run_getObj_map h1, run_checkKey hkk _ _ _ hcd.1.1, f1, s1]
                                | some q =>
                                  obtain ⟨i, v⟩ := q
                                  simp only [delObj] at s1 ⊢
                                  simp [run_underlying hu, run_getObj_map h1, run_checkKey hkk _ _ _ hcd.1.1, f1, s1]
                              simp [builtin, hrun]
                        | _ => trivial
                  | _ => simp only []; trivial
            | _ => exact RunOk.no _ _

/-! ### copy -/

theorem copy_src (h : SRel P ι s w) {size n : Nat} {y y' : Value} {new : List Value} {k : Nat} (hs : srcOf s size (cutV n y) = some (new, k)) (hy : VRel ι y y') :
    ∃ (len : Nat) (new' : Array Value), VRelL ι new new'.toList ∧ new.length = k * size ∧ (Builtin.lenOf y').run P w = .ok len w ∧ Nat.min len n = k ∧ (Builtin.firstCells size k y').run P w = .ok new' w := by
  cases y with
  | slice a m c =>
    simp only [cutV] at hs
    cases hb : Nat.ble m n with
    | true =>
      simp only [hb, cond_true] at hs
      have hle := Nat.le_of_ble_eq_true hb
      obtain ⟨new', q1, q2, q3, q4⟩ := srcOf_ok h hs hy
      have hlen : (Builtin.lenOf y').run P w = .ok m w := by
        cases a with
        | none => have := hy.nilslice_inv; subst this; simp [Builtin.lenOf]
        | some a => obtain ⟨l, off', c', _, _, _, _, _, _, e⟩ := hy.slice_inv; subst e; simp [Builtin.lenOf]
      have hk : m = k := by rw [q3] at hlen; cases hlen; rfl
      subst hk
      exact ⟨m, new', q1, q2, hlen, Nat.min_eq_left hle, q4 w (WSame.refl w)⟩
    | false =>
      simp only [hb, cond_false] at hs
      have hlt : n < m := by
        rcases Nat.lt_or_ge n m with x | x
        · exact x
        · rw [Nat.ble_eq_true_of_le x] at hb; cases hb
      cases a with
      | none =>
        simp only [srcOf] at hs
        cases hz : Nat.beq n 0 with
        | false => simp [hz] at hs
        | true =>
          simp only [hz, cond_true, Option.some.injEq, Prod.mk.injEq] at hs
          obtain ⟨rfl, rfl⟩ := hs
          have := Nat.eq_of_beq_eq_true hz; subst this
          have := hy.nilslice_inv; subst this
          exact ⟨m, #[], .nil, by simp, by simp [Builtin.lenOf], Nat.min_eq_right (Nat.zero_le _), by simp [Builtin.firstCells]⟩
      | some a =>
        obtain ⟨l, off', c', hi, hnc, hcc, hex, hop, hoff, e⟩ := hy.slice_inv; subst e
        simp only [srcOf] at hs
        cases hl : s.load a.block a.off (n * size) with
        | none => simp [hl] at hs
        | some l0 =>
          simp only [hl, Option.some.injEq, Prod.mk.injEq] at hs
          obtain ⟨rfl, rfl⟩ := hs
          obtain ⟨old', o1, o2, o3⟩ := load_run (cap := c') h hi hl (by omega) hoff
          refine ⟨m, old', o1, by rw [← o2, ← Array.length_toList, o1.length], by simp [Builtin.lenOf], Nat.min_eq_right (by omega), ?_⟩
          have := o3 w (WSame.refl w)
          simpa [Builtin.firstCells] using this
  | string b =>
    simp only [cutV] at hs
    cases hb : Nat.ble b.size n with
    | true =>
      simp only [hb, cond_true] at hs
      obtain ⟨new', q1, q2, q3, q4⟩ := srcOf_ok h hs hy
      have := hy.string_inv; subst this
      have hlen : (Builtin.lenOf (.string b)).run P w = .ok b.size w := by simp [Builtin.lenOf]
      have hk : b.size = k := by rw [q3] at hlen; cases hlen; rfl
      exact ⟨b.size, new', q1, q2, hlen, by rw [← hk]; exact Nat.min_eq_left (Nat.le_of_ble_eq_true hb), q4 w (WSame.refl w)⟩
    | false => simp [hb, srcOf] at hs
  | _ => simp [cutV, srcOf] at hs

theorem store_nil_off {a : Addr} : (storeCells a []).run P w = .ok () w := rfl

theorem ok_copy {c : Call} (ho : o.op = .call c) (hc : c.callee = .builtin .copy) : RunOk P o (builtinR P .copy c) := by
  simp only [builtinR]
  cases ht : c.argTypes[0]? with
  | none => exact RunOk.no _ _
  | some t =>
    cases ha : c.args.toList with
    | nil => exact RunOk.no _ _
    | cons x l =>
      cases l with
      | nil => exact RunOk.no _ _
      | cons y l =>
        cases l with
        | cons _ _ => exact RunOk.no _ _
        | nil =>
          simp only []
          cases hse : sliceElem P t with
          | none => exact RunOk.no _ _
          | some e =>
            simp only []
            cases hz : szOf P e with
            | none => exact RunOk.no _ _
            | some z =>
              simp only []
              cases hx : opdOk x && opdOk y with
              | false => exact RunOk.no _ _
              | true =>
                simp only [Bool.and_eq_true] at hx
                intro hb ι s w g ρ hS hn hlo hr
                have hrx : VRel ι (ev g x) (ρ x) := hr x (by simp [ho, Op.operands, Call.operands, hc, args_of ha]) hx.1
                have hry : VRel ι (ev g y) (ρ y) := hr y (by simp [ho, Op.operands, Call.operands, hc, args_of ha]) hx.2
                simp only []
                unfold copyV
                cases he : ev g x with
                | slice base n cap =>
                  cases base with
                  | none => trivial
                  | some a =>
                    simp only []
                    cases hsr : srcOf s z (cutV n (ev g y)) with
                    | none => trivial
                    | some q =>
                      obtain ⟨l, k⟩ := q
                      simp only []
                      cases hac : allCells l with
                      | false => trivial
                      | true =>
                        simp only [cond_true]
                        cases hst : s.store a.block a.off l with
                        | none => trivial
                        | some s' =>
                          simp only []
                          rw [he] at hrx
                          obtain ⟨lc, off', c', hi, hnc, hcc, hex, hop, hoff, e1⟩ := hrx.slice_inv
                          obtain ⟨len, new', q1, q0, q2, q3, q4⟩ := copy_src hS hsr hry
                          obtain ⟨w', r1, r2, r3, _⟩ := store_rel (hb := hb) hS hi hst q1 hac
                          refine ⟨ι, w', goInt k, .inl ?_, .int _ _, r2, r3⟩
                          rw [call_builtin ho hc, args_of ha]
                          have hrun : (Builtin.copy_ c.argTypes o.type #[ρ x, ρ y]).run P w = .ok (goInt k) w' := by
                            have hu := sliceElem_eq hse
                            have hst2 : (storeCells ⟨lc.blk, off', none⟩ new'.toList).run P w = .ok () w' := by
                              by_cases h0 : c' = 0
                              · have hk0 : k = 0 := by rw [← q3]; have : n = 0 := by omega
                                                       subst this; exact Nat.min_eq_right (Nat.zero_le _)
                                have hnil : new'.toList = [] := by
                                  have := q1.length
                                  rw [q0, hk0] at this
                                  simpa using this.symm
                                rw [hnil] at r1 ⊢
                                simpa [storeCells] using r1
                              · rw [hoff h0]; exact r1
                            simp only [Builtin.copy_, ht, e1]
                            simp [run_underlying hu, q2, q3, run_sizeOf' hz, q4, hst2]
                          simp [builtin, hrun]
                | _ => trivial

end Go.AM
/- Entries of maps that are made first and stored into then. -/
namespace Go.AM
variable {P : Program} {o : Oper} {ι : Inj} {s : S} {w w' : World} {hb : Nat}

theorem ok_entry {t : TypeId} {m k : Operand} (ho : o.op = .mapEntry t m k) : RunOk P o (entryR P t m k) := by
  unfold entryR
  cases hx : opdOk m && opdOk k with
  | false => exact RunOk.no _ _
  | true =>
    simp only [Bool.and_eq_true] at hx
    simp only [cond_true]
    cases hu : P.underlying t with
    | none => exact RunOk.no _ _
    | some d =>
      cases d with
      | map kt et =>
        simp only []
        cases hkk : keyKind P kt with
        | none => exact RunOk.no _ _
        | some kk =>
          cases hz : zeroOf P et with
          | none => exact RunOk.no _ _
          | some z =>
            simp only []
            cases hp : plainV z && notTup z with
            | false => exact RunOk.no _ _
            | true =>
              simp only [Bool.and_eq_true] at hp
              intro hb ι s w g ρ hS hn hlo hr
              have hrm := hr m (by simp [ho, Op.operands]) hx.1
              have hrk := hr k (by simp [ho, Op.operands]) hx.2
              cases he : ev g m with
              | map r =>
                cases r with
                | none => simp only [he]; trivial
                | some r =>
                  simp only [he]
                  rw [he] at hrm
                  obtain ⟨l, hi, e⟩ := hrm.map_inv
                  cases hg : s.h.get r with
                  | none => trivial
                  | some ob =>
                    cases ob with
                    | map es clk =>
                      simp only []
                      cases hc : keyOk kk (ev g k) && Nat.ble s.lo r with
                      | false => trivial
                      | true =>
                        simp only [cond_true]
                        simp only [Bool.and_eq_true, Nat.ble_eq] at hc
                        cases hput : putK kk (ev g k) z es with
                        | none => trivial
                        | some q =>
                          obtain ⟨nw, es2⟩ := q
                          cases nw with
                          | false => trivial
                          | true =>
                            simp only []
                            obtain ⟨es', lst, h1, h2, h3, h4, h5, h6⟩ := hS.mapAt hi hg
                            have ek := keyOk_vrel hc.1 hrk
                            have hks := keys_ok (kk := kk) h4 (putK_first hput)
                            rcases putK_spec hc.1 hput hks with ⟨_, e1, hne⟩ | ⟨x, _⟩
                            · subst e1
                              rcases run_findKey hkk hc.1 h2 h3 h4 hks w with ⟨u, j, e0, hm, _⟩ | ⟨_, _, hrun⟩
                              · exact absurd rfl (hne _ hm).ne
                              · have hn0 : ∀ c e f, Obj.map es' clk ≠ .cells c e f := by intro c e f h; cases h
                                obtain ⟨r1, r2⟩ := setObj_run (P := P) (o1 := .map (es'.push { key := ev g k, val := z, born := clk }) (clk + 1)) h1 hn0
                                have hkv : VRel ι (ev g k) (ev g k) := by rw [ek] at hrk; exact hrk
                                have hzv : VRel ι z z := .plainV hp.1
                                refine ⟨ι, _, .tuple #[z, goInt clk], .inl ?_, .tuple (.cons hzv (.cons (.int _ _) .nil)), hS.putO hi hg (by intro b h; cases h) (by intro p; simp [Par]) r2 ?_, Fm.put hi hg trivial hc.2 r2⟩
                                · simp only [execOp, ho, e, ek, Instr.mapEntry, Sem.run_bind, run_underlying hu, Result.andThen_ok, run_getObj_map h1, run_checkKey hkk _ _ _ hc.1, hrun, run_zeroValue' hz, r1, Sem.run_pure]
                                · refine .mapS (lst := lst) (e0 := { key := ev g k, val := z, born := clk }) ?_ (h3.append (.cons hkv hzv .nil)) rfl rfl ?_ ?_ ?_
                                  · rw [Array.toList_push]; exact h2.append_right _
                                  · rw [List.pairwise_append]
                                    exact ⟨h4, by simp, fun a ha b hb => by simp at hb; subst hb; exact (hne a ha).symm⟩
                                  · intro e he
                                    rw [Array.toList_push] at he
                                    rcases List.mem_append.1 he with x | x
                                    · have := h5 e x; omega
                                    · simp at x; subst x; simp
                                  · rw [Array.toList_push, List.map_append, List.nodup_append]
                                    refine ⟨h6, by simp, ?_⟩
                                    intro a ha b hb'
                                    simp at hb'; subst hb'
                                    obtain ⟨e, he, rfl⟩ := List.mem_map.1 ha
                                    have := h5 e he; omega
                            · cases x
                    | _ => trivial
              | _ => simp only [he]; trivial
      | _ => exact RunOk.no _ _

theorem setLast_append (x : Value) : ∀ (l : List (Value × Value)) (k z : Value), setLast x (l ++ [(k, z)]) = l ++ [(k, x)]
  | [], k, z => rfl
  | [q], k, z => rfl
  | q :: p :: l, k, z => by
    have := setLast_append x (p :: l) k z
    simp only [List.cons_append] at this ⊢
    simp only [setLast, this]

theorem EsRel.last {ι : Inj} : ∀ {es : List (Value × Value)} {lst : List MapEntry} {e0 : MapEntry}, EsRel ι es (lst ++ [e0]) → ∃ es0 k z, es = es0 ++ [(k, z)] ∧ EsRel ι es0 lst ∧ VRel ι k e0.key ∧ VRel ι z e0.val
  | es, [], e0, h => by
    cases h with
    | cons a b c => cases c; exact ⟨[], _, _, rfl, .nil, a, b⟩
  | es, f :: lst, e0, h => by
    cases h with
    | cons a b c =>
      obtain ⟨es0, k, z, e, r1, r2, r3⟩ := EsRel.last c
      subst e
      exact ⟨_ :: es0, k, z, rfl, .cons a b r1, r2, r3⟩

theorem ok_entryStore {t : TypeId} {m st x : Operand} (ho : o.op = .entryStore t m st x) : RunOk P o (entryStR m st x) := by
  unfold entryStR
  cases hx : opdOk m && opdOk st && opdOk x with
  | false => exact RunOk.no _ _
  | true =>
    simp only [Bool.and_eq_true] at hx
    intro hb ι s w g ρ hS hn hlo hr
    have hrm := hr m (by simp [ho, Op.operands]) hx.1.1
    have hrs := hr st (by simp [ho, Op.operands]) hx.1.2
    have hrx := hr x (by simp [ho, Op.operands]) hx.2
    cases he : ev g m with
    | map r =>
      cases r with
      | none => simp only [he]; trivial
      | some r =>
        cases hes : ev g st with
        | int kd nn =>
          cases kd with
          | i64 =>
            simp only [he, hes]
            rw [he] at hrm; rw [hes] at hrs
            obtain ⟨l, hi, e⟩ := hrm.map_inv
            have es := hrs.int_inv
            cases hg : s.h.get r with
            | none => trivial
            | some ob =>
              cases ob with
              | mapS ents clk b k =>
                simp only []
                cases hc : decide (nn = Int.ofNat b) && notTup (ev g x) && Nat.ble s.lo r with
                | false => trivial
                | true =>
                  simp only [cond_true]
                  simp only [Bool.and_eq_true, decide_eq_true_eq, Nat.ble_eq] at hc
                  obtain ⟨⟨hnb, hnt⟩, hlo2⟩ := hc
                  obtain ⟨o', h1, h2⟩ := hS.obj r l _ hi hg
                  cases h2 with
                  | mapS q1 q2 q3 q4 q5 q6 q7 =>
                    rename_i es' lst e0
                    subst q4
                    obtain ⟨es0, k0, z0, q8, r1, r2, r3⟩ := q2.last
                    subst q8
                    rw [setLast_append]
                    have hmem : e0 ∈ es'.toList := q1.mem_iff.1 (by simp)
                    -- where it lies
                    have hfind : ∃ j, es'.findIdx? (fun e => (e.born : Int) == nn) = some j ∧ es'[j]? = some e0 := by
                      have key : ∀ l : List MapEntry, e0 ∈ l → (l.map (·.born)).Nodup → ∃ j, l.findIdx? (fun e => (e.born : Int) == nn) = some j ∧ l[j]? = some e0 := by
                        intro l
                        induction l with
                        | nil => intro h; simp at h
                        | cons a l ih =>
                          intro h hnd
                          simp only [List.map_cons, List.nodup_cons, List.mem_map, not_exists, not_and] at hnd
                          rcases List.mem_cons.1 h with rfl | h
                          · refine ⟨0, ?_, rfl⟩
                            have : (((e0.born : Int)) == nn) = true := by rw [hnb]; simp
                            simp [List.findIdx?_cons, this]
                          · obtain ⟨j, a1, a2⟩ := ih h hnd.2
                            have hne : (((a.born : Int)) == nn) = false := by
                              rw [hnb]
                              simp only [beq_eq_false_iff_ne, ne_eq]
                              intro x
                              have : a.born = e0.born := by have x2 : ((a.born : Nat) : Int) = ((e0.born : Nat) : Int) := x; omega
                              exact hnd.1 e0 h this.symm
                            exact ⟨j + 1, by simp [List.findIdx?_cons, hne, a1], by simpa using a2⟩
                      obtain ⟨j, a1, a2⟩ := key es'.toList hmem q7
                      exact ⟨j, by have := (List.findIdx?_toArray (l := es'.toList) (p := fun e : MapEntry => (e.born : Int) == nn)); simp only [Array.toArray_toList] at this; rw [this]; exact a1, by simpa using a2⟩
                    obtain ⟨j, f1, f2⟩ := hfind
                    have hn0 : ∀ c e f, Obj.map es' clk ≠ .cells c e f := by intro c e f h; cases h
                    obtain ⟨u1, u2⟩ := setObj_run (P := P) (o1 := .map (es'.modify j fun e => { e with val := ρ x }) clk) h1 hn0
                    refine ⟨ι, _, undef, .inr ⟨?_, rfl⟩, .tuple .nil, hS.putO hi hg (by intro b h; cases h) (by intro p; simp [Par]) u2 ?_, Fm.put hi hg trivial hlo2 u2⟩
                    · have hrun : (Instr.entryStore t (.map (some l.blk)) (.int .i64 nn) (ρ x)).run P w = .ok () { w with heap := w.heap.setIfInBounds l.blk (.map (es'.modify j fun e => { e with val := ρ x }) clk) } := by
                        simp only [Instr.entryStore, Sem.run_bind, run_getObj_map h1, Result.andThen_ok, asInt, asIntOf, Sem.run_pure, f1]
                        exact u1
                      simp only [execOp, ho, e, es, Sem.run_bind, hrun, Result.andThen_ok, Sem.run_pure]
                    · have hjlt : j < es'.toList.length := by
                        rcases Nat.lt_or_ge j es'.toList.length with y | y
                        · exact y
                        · have : es'.toList[j]? = none := List.getElem?_eq_none y
                          rw [Array.getElem?_toList, f2] at this; cases this
                      have hje : es'.toList[j] = e0 := by
                        have : es'.toList[j]? = some e0 := by rw [Array.getElem?_toList]; exact f2
                        rw [List.getElem?_eq_getElem hjlt] at this; simpa using this
                      have hsplit : es'.toList = es'.toList.take j ++ e0 :: es'.toList.drop (j + 1) := by
                        rw [← hje, ← List.drop_eq_getElem_cons hjlt, List.take_append_drop]
                      have hmod : (es'.modify j fun e => { e with val := ρ x }).toList = es'.toList.take j ++ { e0 with val := ρ x } :: es'.toList.drop (j + 1) := by
                        rw [Array.toList_modify, List.modify_eq_take_cons_drop hjlt, hje]
                      refine .map (lst := lst ++ [{ e0 with val := ρ x }]) ?_ (r1.append (.cons ?_ hrx .nil)) ?_ ?_ ?_
                      · rw [hmod]
                        have hp2 : (lst ++ [e0]).Perm (es'.toList.take j ++ e0 :: es'.toList.drop (j + 1)) := by rw [← hsplit]; exact q1
                        have hp3 : (e0 :: lst).Perm (e0 :: (es'.toList.take j ++ es'.toList.drop (j + 1))) := ((List.perm_append_singleton e0 lst).symm.trans hp2).trans List.perm_middle
                        exact (List.perm_append_singleton _ lst).trans ((List.Perm.cons _ (List.Perm.cons_inv hp3)).trans List.perm_middle.symm)
                      · exact r2
                      · rw [List.pairwise_append] at q5 ⊢
                        refine ⟨q5.1, by simp, fun a ha b hb => ?_⟩
                        simp at hb; subst hb
                        exact q5.2.2 a ha (k0, z0) (by simp)
                      · intro e2 he2
                        rw [hmod] at he2
                        rcases List.mem_append.1 he2 with y | y
                        · exact q6 e2 (List.mem_of_mem_take y)
                        · rcases List.mem_cons.1 y with rfl | y
                          · exact q6 e0 hmem
                          · exact q6 e2 (List.mem_of_mem_drop y)
                      · rw [hmod]
                        rw [hsplit] at q7
                        simpa using q7
              | _ => trivial
          | _ => simp only [he, hes]; trivial
        | _ => simp only [he, hes]; trivial
    | _ => simp only [he]; trivial

end Go.AM
/- Every abstract operation is as the model's. -/
namespace Go.AM
variable {P : Program}

theorem ok_builtin {o : Oper} {c : Call} {b : Builtin} (ho : o.op = .call c) (hc : c.callee = .builtin b) : RunOk P o (builtinR P b c) := by
  cases b with
  | append => exact ok_append ho hc
  | cap => exact ok_cap ho hc
  | copy => exact ok_copy ho hc
  | delete => exact ok_delete ho hc
  | recover => exact ok_recover ho hc
  | min => exact ok_minmax false rfl ho hc
  | max => exact ok_minmax true rfl ho hc
  | len =>
    simp only [builtinR]
    cases ht : c.argTypes[0]? with
    | none => exact RunOk.no _ _
    | some t =>
      cases ha : c.args.toList with
      | nil => exact RunOk.no _ _
      | cons x l =>
        cases l with
        | cons _ _ => exact RunOk.no _ _
        | nil =>
          simp only []
          cases hu : P.underlying t with
          | none => exact RunOk.no _ _
          | some d =>
            simp only []
            cases hx : opdOk x with
            | false => exact RunOk.no _ _
            | true =>
              simp only [cond_true]
              cases d with
              | map k e => exact ok_lenMap ho hc ht ha hu hx
              | _ => exact ok_lenPu ho hc ht ha hu hx (by intro k e h; cases h)
  | _ => exact RunOk.no _ _

theorem cr_ok (o : Oper) : RunOk P o (cr P o.op) := by
  cases h : o.op with
  | move x => exact ok_move h
  | assign x => exact ok_assign h
  | pick c a b => exact ok_pick h
  | alloc e => exact ok_alloc h
  | box e x => exact ok_box h
  | build t parts => exact ok_build h
  | buildSlice t len parts => exact ok_buildSlice h
  | load t a => exact ok_load h
  | store t a x => exact ok_store h
  | nilCheck x => exact ok_nilCheck h
  | binOp op t x y n => exact ok_binOp h
  | unOp op t x => exact ok_unOp h
  | convert a b x => exact ok_convert h
  | makeInterface t x => exact ok_makeInterface h
  | makeFunc a b c => exact ok_makeFunc h
  | makeMap t r => exact ok_makeMap h
  | makeSlice t l c => exact ok_makeSlice h
  | slice t x lo hi mx => exact ok_slice h
  | fieldAddr t x f => exact ok_fieldAddr h
  | field t x f => exact ok_field h
  | indexAddr t x i => exact ok_indexAddr h
  | index t x i => exact ok_index h
  | lookup t x k ok => exact ok_lookup h
  | mapUpdate t m k x => exact ok_mapR (.inl h)
  | insert t m k x => exact ok_mapR (.inr h)
  | mapEntry t m k => exact ok_entry h
  | entryStore t m k x => exact ok_entryStore h
  | range t x => exact ok_range h
  | next it str => exact ok_next h
  | typeAssert x t a ok => exact ok_typeAssert h
  | extract t i => exact ok_extract h
  | defer c => exact ok_defer h
  | panic x => exact ok_panic h
  | call c =>
    show RunOk P o (callR P c)
    cases hc : c.callee with
    | builtin b => simp only [callR, hc]; exact ok_builtin h hc
    | invoke a b => simp only [callR, hc]; exact RunOk.no _ _
    | value f => exact ok_callV h hc
  | _ => exact RunOk.no _ _

end Go.AM
/- The two machines side by side: operations of a region. -/
namespace Go.AM
variable {P : Program}

/-- a running frame of the model -/
structure KR where
  k : CallKind
  r : Option Nat
abbrev mkF (fn : FuncId) (kind : KR) (tmps : Array Value) (ds : List Deferred) (todo : List Item) : Frame :=
  { fn, tmps, todo, defers := ds, mode := .run, kind := kind.k, roundOf := kind.r }
def bs (fn : FuncId) (kind : KR) : Frame := mkF fn kind #[] [] []
theorem at_eq (fn : FuncId) (kind : KR) (tmps : Array Value) (ds : List Deferred) (todo : List Item) : (bs fn kind).atR ⟨tmps, ds⟩ todo = mkF fn kind tmps ds todo := rfl

def pt (tmps : Array Value) (dst : Option Tmp) (v : Value) : Array Value := match dst with | some d => tmps.setIfInBounds d v | none => tmps
theorem pt_size (tmps : Array Value) (dst : Option Tmp) (v : Value) : (pt tmps dst v).size = tmps.size := by cases dst <;> simp [pt]
theorem put_eq (tmps : Array Value) (ds : List Deferred) (dst : Option Tmp) (v : Value) : (Act.mk tmps ds).put dst v = ⟨pt tmps dst v, ds⟩ := by cases dst <;> rfl

/-- what an operand is -/
def rho (tmps : Array Value) : Operand → Value := (Act.mk tmps []).eval
theorem rho_eq (tmps : Array Value) (ds : List Deferred) : (Act.mk tmps ds).eval = rho tmps := by funext x; cases x <;> rfl
theorem TmpRel.rho {ι : Inj} {g : T Value} {tmps : Array Value} (h : TmpRel ι g tmps) (xs : List Operand) : ORho ι g (rho tmps) xs := by
  intro x _ hok
  cases x with
  | tmp t => exact h t
  | const v => exact .plainV hok
  | func f => exact .func .nil .nil
  | global _ => cases hok

theorem TmpRel.putD {ι : Inj} {g : T Value} {tmps : Array Value} {nt : Nat} (h : TmpRel ι g tmps) (hn : tmps.size = nt) {dst : Option Tmp} (hd : dstOk nt dst = true) {v v' : Value} (hv : VRel ι v v') :
    TmpRel ι (putD g dst v) (pt tmps dst v') := by
  cases dst with
  | none => exact h
  | some d => exact h.set (by rw [hn]; simpa [dstOk] using hd) hv

theorem mkCl_cases (nt : Nat) (all : Array Oper) (o : Oper) : mkCl P nt all o = ⟨rdNo, none, .no⟩ ∨
    ∃ gd, mkCl P nt all o = ⟨cr P o.op, o.dst, gd⟩ ∧ mkGd all o.guard = some gd ∧ dstOk nt o.dst = true ∧ gdOk nt gd = true := by
  unfold mkCl
  cases h : mkGd all o.guard with
  | none => exact .inl rfl
  | some gd =>
    simp only []
    cases hk : dstOk nt o.dst && gdOk nt gd with
    | false => exact .inl rfl
    | true => simp only [Bool.and_eq_true] at hk; exact .inr ⟨gd, rfl, rfl, hk.1, hk.2⟩

theorem VRel.tuple_ex {ι : Inj} {xs : Array Value} {v : Value} (h : VRel ι (.tuple xs) v) : ∃ xs', v = .tuple xs' := by cases h; exact ⟨_, rfl⟩

theorem gd_rel' {all : Array Oper} {o : Oper} {gd : Gd} {nt : Nat} {ι : Inj} {g : T Value} {tmps : Array Value} {b : Bool} (hm : mkGd all o.guard = some gd) (hok : gdOk nt gd = true) (hn : tmps.size = nt)
    (h : ∀ d w, gd = .on d w → VRel ι (ev g (.tmp d)) (tmps.getD d undef)) (hg : gdT gd g = some b) : Region.wanted o (yielded all tmps) = b := by
  unfold mkGd at hm
  unfold Region.wanted
  cases hgu : o.guard with
  | none =>
    simp only [hgu, Option.some.injEq] at hm; subst hm
    simp only [gdT, Option.some.injEq] at hg; subst hg; rfl
  | some jw =>
    obtain ⟨j, w⟩ := jw
    simp only [hgu] at hm
    cases hj : all[j]? with
    | none => simp [hj] at hm
    | some oj =>
      simp only [hj] at hm
      cases hd : oj.dst with
      | none => simp [hd] at hm
      | some d =>
        simp only [hd, Option.some.injEq] at hm; subst hm
        simp only [gdT] at hg
        have hr := h d w rfl
        have hdn : d < tmps.size := by rw [hn]; simpa [gdOk] using hok
        have hy : tmps[d]? = some (tmps.getD d undef) := by simp [Array.getD, hdn]
        cases he : ev g (.tmp d) with
        | bool x =>
          rw [he] at hr hg
          simp only [Option.some.injEq] at hg; subst hg
          have e1 := hr.bool_inv
          rw [e1] at hy
          simp [yielded, hj, hd, hy]
        | tuple xs =>
          rw [he] at hr hg
          simp only [Option.some.injEq] at hg; subst hg
          obtain ⟨xs', e1⟩ := hr.tuple_ex
          rw [e1] at hy
          simp [yielded, hj, hd, hy]
        | _ => rw [he] at hg; cases hg
theorem gd_rel {all : Array Oper} {o : Oper} {gd : Gd} {nt : Nat} {ι : Inj} {g : T Value} {tmps : Array Value} {b : Bool} (hm : mkGd all o.guard = some gd) (hok : gdOk nt gd = true) (hn : tmps.size = nt)
    (h : TmpRel ι g tmps) (hg : gdT gd g = some b) : Region.wanted o (yielded all tmps) = b := gd_rel' hm hok hn (fun d _ _ => h d) hg

/-! ### single steps of the model -/
section
variable {fn : FuncId} {kind : KR} {tmps : Array Value} {ds : List Deferred} {all : Array Oper} {i : Nat} {L : List Nat} {k : List Item} {cs : List Frame} {w w' : World} {o : Oper}

theorem st_skip (ho : all[i]? = some o) (hw : Region.wanted o (yielded all tmps) = false) :
    Go.step P (lone (mkF fn kind tmps ds (.inRegion all (i :: L) :: k)) cs w) = .next (lone (mkF fn kind (pt tmps o.dst undef) ds (.inRegion all L :: k)) cs w) := by
  have := stepR_op_skip (P := P) (b := bs fn kind) (a := ⟨tmps, ds⟩) (k := k) (cs := cs) (w := w) (ops := all) (i := i) (rest := L) (by simp [ho, hw])
  rw [put_eq, ho] at this
  exact this

theorem apply_bare {fr : Frame} {cs : List Frame} {x y : Sem Next} (h : x.run P w = y.run P w) : (stepG.apply P true fr cs none x w).bare = (stepG.apply P true fr cs none y w).bare := by
  simp only [stepG.apply, Sem.runT_eq, h, GStep.bare_after, if_true]

theorem stR (ho : all[i]? = some o) (hw : Region.wanted o (yielded all tmps) = true) :
    stepG P true { frame := mkF fn kind tmps ds (.inRegion all (i :: L) :: k), callers := cs, status := .running, dying := none } w =
      stepG.apply P true (mkF fn kind tmps ds (.inRegion all (i :: L) :: k)) cs none (o.semAt kind.r (rho tmps)) w := by
  have := stepGR_op (P := P) (b := bs fn kind) (a := ⟨tmps, ds⟩) (k := k) (cs := cs) (w := w) (ops := all) (i := i) (rest := L) ho hw
  rw [rho_eq] at this
  exact this

/-- no defer: as if it were no round -/
theorem stB (ho : all[i]? = some o) (hw : Region.wanted o (yielded all tmps) = true) (hd : ∀ d w', (execOp (rho tmps) o).run P w ≠ .ok (.defer d) w') :
    (stepG P true { frame := mkF fn kind tmps ds (.inRegion all (i :: L) :: k), callers := cs, status := .running, dying := none } w).bare =
      (stepG.apply P true (mkF fn kind tmps ds (.inRegion all (i :: L) :: k)) cs none (execOp (rho tmps) o) w).bare := by
  rw [stR ho hw]
  refine apply_bare ?_
  by_cases hc : ∃ c, o.op = .defer c
  · obtain ⟨c, hc⟩ := hc
    unfold Oper.semAt
    cases kind.r with
    | none => rfl
    | some l =>
      simp only [hc]
      simp only [execOp, hc] at hd ⊢
      cases hr : (resolve (rho tmps) c o.type).run P w with
      | ok d w1 => exact absurd (by simp [hr]) (hd d w1)
      | halt x w1 => simp [hr, Result.andThen]
  · rw [Oper.semAt_eq _ _ _ (fun c h => hc ⟨c, h⟩)]

theorem fin_eq (ho : all[i]? = some o) (v : Value) (dd : List Deferred) : (mkF fn kind tmps dd (.inRegion all (i :: L) :: k)).finish v = mkF fn kind (pt tmps o.dst v) dd (.inRegion all L :: k) := by
  have := Frame.finish_atR (bs fn kind) ⟨tmps, dd⟩ all i L k v
  rw [put_eq, ho] at this
  exact this

theorem st_value (ho : all[i]? = some o) (hw : Region.wanted o (yielded all tmps) = true) {v : Value}
    (hr : (execOp (rho tmps) o).run P w = .ok (.value v) w' ∨ ((execOp (rho tmps) o).run P w = .ok .skip w' ∧ v = undef)) :
    Go.step P (lone (mkF fn kind tmps ds (.inRegion all (i :: L) :: k)) cs w) = .next (lone (mkF fn kind (pt tmps o.dst v) ds (.inRegion all L :: k)) cs w') := by
  rw [← fin_eq ho]
  rcases hr with hr | ⟨hr, rfl⟩
  · exact step_lone_go (by rw [stB ho hw (by rw [hr]; intro _ _ h; cases h)]; simp [stepG.apply, hr])
  · exact step_lone_go (by rw [stB ho hw (by rw [hr]; intro _ _ h; cases h)]; simp [stepG.apply, hr])

theorem st_enter (ho : all[i]? = some o) (hw : Region.wanted o (yielded all tmps) = true) {f : FuncId} {args : Array Value}
    (hr : (execOp (rho tmps) o).run P w = .ok (.enter f args) w') :
    Go.step P (lone (mkF fn kind tmps ds (.inRegion all (i :: L) :: k)) cs w) = .next (lone (Frame.enter P f args .normal) (mkF fn kind tmps ds (.inRegion all (i :: L) :: k) :: cs) w') :=
  step_lone_go (by rw [stB ho hw (by rw [hr]; intro _ _ h; cases h)]; simp [stepG.apply, hr])

theorem st_round (ho : all[i]? = some o) (hw : Region.wanted o (yielded all tmps) = true) {l : Nat} {f : FuncId} {t : Array Value} {a b : Code}
    (hr : (execOp (rho tmps) o).run P w = .ok (.round l f t a b) w') :
    Go.step P (lone (mkF fn kind tmps ds (.inRegion all (i :: L) :: k)) cs w) = .next (lone (Frame.round l f t a b .normal) (mkF fn kind tmps ds (.inRegion all (i :: L) :: k) :: cs) w') :=
  step_lone_go (by rw [stB ho hw (by rw [hr]; intro _ _ h; cases h)]; simp [stepG.apply, hr])

theorem st_defer (hk : kind.r = none) (ho : all[i]? = some o) (hw : Region.wanted o (yielded all tmps) = true) {d : Deferred}
    (hr : (execOp (rho tmps) o).run P w = .ok (.defer d) w') :
    Go.step P (lone (mkF fn kind tmps ds (.inRegion all (i :: L) :: k)) cs w) = .next (lone (mkF fn kind (pt tmps o.dst undef) (d :: ds) (.inRegion all L :: k)) cs w') := by
  rw [← fin_eq ho]
  exact step_lone_go (by rw [stR ho hw, hk, Oper.semAt_none]; simp only [stepG.apply, Sem.runT_eq, hr, GStep.bare_after]; rfl)

theorem st_panic (ho : all[i]? = some o) (hw : Region.wanted o (yielded all tmps) = true) {v : Value}
    (hr : (execOp (rho tmps) o).run P w = .halt (.panic v) w') :
    Go.step P (lone (mkF fn kind tmps ds (.inRegion all (i :: L) :: k)) cs w) = .next (lone ((mkF fn kind tmps ds (.inRegion all (i :: L) :: k)).raise [{ v, recovered := false }]) cs w') :=
  step_lone_go (by rw [stB ho hw (by rw [hr]; intro _ _ h; cases h)]; simp [stepG.apply, hr])

theorem st_recover (hk : kind.r = none) (ho : all[i]? = some o) (hw : Region.wanted o (yielded all tmps) = true) 
    (hr : (execOp (rho tmps) o).run P w = .ok .recover w') :
    Go.step P (lone (mkF fn kind tmps ds (.inRegion all (i :: L) :: k)) cs w) =
      .next (match tryRecover (mkF fn kind tmps ds (.inRegion all (i :: L) :: k)) cs with
        | some (v, cs') => lone (mkF fn kind (pt tmps o.dst v) ds (.inRegion all L :: k)) cs' w'
        | none => lone (mkF fn kind (pt tmps o.dst .nilIface) ds (.inRegion all L :: k)) cs w') := by
  cases ht : tryRecover (mkF fn kind tmps ds (.inRegion all (i :: L) :: k)) cs with
  | some p =>
    obtain ⟨v, cs'⟩ := p
    simp only []
    rw [← fin_eq ho]
    exact step_lone_go (by rw [stB ho hw (by rw [hr]; intro _ _ h; cases h)]; simp [stepG.apply, hr, ht, hk])
  | none =>
    simp only []
    rw [← fin_eq ho]
    exact step_lone_go (by rw [stB ho hw (by rw [hr]; intro _ _ h; cases h)]; simp [stepG.apply, hr, ht, hk])
end

/-! ### a region in its own order -/

theorem mkCls_drop (nt : Nat) (all : Array Oper) : ∀ (l : List Oper), mkCls P nt all l = l.map (mkCl P nt all)
  | [] => rfl
  | o :: l => by simp [mkCls, mkCls_drop nt all l]

theorem drop_cons {all : Array Oper} {j : Nat} {o : Oper} (h : all[j]? = some o) : all.toList.drop j = o :: all.toList.drop (j + 1) := by
  have hj : j < all.toList.length := by
    rcases Nat.lt_or_ge j all.size with x | x
    · simpa using x
    · simp [Array.getElem?_eq_none x] at h
  rw [List.drop_eq_getElem_cons hj]
  congr 1
  rw [Array.getElem?_eq_getElem (by simpa using hj)] at h
  simpa using h

/-- the operation at hand is a hard one, and not done -/
structure AtOp (P : Program) (ι : Inj) (s : S) (w : World) (all : Array Oper) (tmps : Array Value) (i : Nat) (o : Oper) (r : OR) : Prop where
  op : all[i]? = some o
  wanted : Region.wanted o (yielded all tmps) = true
  post : ∀ hb, hb ≤ s.nx → HdPost P hb ι s w (rho tmps) o r
  noval : ∀ v s', r ≠ .val v s'

structure OpsRun (P : Program) (hb : Nat) (fn : FuncId) (kind : KR) (ds : List Deferred) (all : Array Oper) (nt : Nat) (k : List Item) (cs : List Frame)
    (ι : Inj) (s : S) (w : World) (m : Machine) (g' : T Value) (s' : S) (ι' : Inj) (w' : World) (tmps' : Array Value) (todo : List Item) : Prop where
  steps : Steps P m (lone (mkF fn kind tmps' ds todo) cs w')
  tmps : TmpRel ι' g' tmps'
  size : tmps'.size = nt
  srel : SRel P ι' s' w'
  fm : Fm hb ι s w ι' s' w'

def OpsPost (P : Program) (hb : Nat) (fn : FuncId) (kind : KR) (ds : List Deferred) (all : Array Oper) (nt : Nat) (k : List Item) (cs : List Frame) (ι : Inj) (s : S) (w : World) (m : Machine) : RR → Prop
  | .fin g' s' => ∃ ι' w' tmps', OpsRun P hb fn kind ds all nt k cs ι s w m g' s' ι' w' tmps' k
  | .at_ l' g' s' r => ∃ ι' w' tmps' j o, OpsRun P hb fn kind ds all nt k cs ι s w m g' s' ι' w' tmps' (.inRegion all (j :: List.range' (j + 1) (all.size - (j + 1))) :: k) ∧
      l' = ⟨cr P o.op, o.dst, (l'.head?.map (·.gd)).getD .no⟩ :: mkCls P nt all (all.toList.drop (j + 1)) ∧ dstOk nt o.dst = true ∧ AtOp P ι' s' w' all tmps' j o r
  | .bad _ => True

theorem OpsPost.of_steps {hb : Nat} {fn : FuncId} {kind : KR} {ds : List Deferred} {all : Array Oper} {nt : Nat} {k : List Item} {cs : List Frame} {ι ι1 : Inj} {s s1 : S} {w w1 : World} {m m1 : Machine} {r : RR}
    (h : Steps P m m1) (f : Fm hb ι s w ι1 s1 w1) (k' : OpsPost P hb fn kind ds all nt k cs ι1 s1 w1 m1 r) : OpsPost P hb fn kind ds all nt k cs ι s w m r := by
  cases r with
  | fin g s => obtain ⟨a, b, c, d⟩ := k'; exact ⟨a, b, c, h.trans d.steps, d.tmps, d.size, d.srel, f.trans d.fm⟩
  | at_ l g s r => obtain ⟨a, b, c, j, o, d, e⟩ := k'; exact ⟨a, b, c, j, o, ⟨h.trans d.steps, d.tmps, d.size, d.srel, f.trans d.fm⟩, e⟩
  | bad => trivial

theorem hd_noval {r : OR} (h : ∀ v s, r ≠ .val v s) {α : Type} (f : Value → S → α) (x : OR → α) : (match r with | .val v s => f v s | r' => x r') = x r := by
  cases r <;> first | rfl | exact absurd rfl (h _ _)

theorem sim_ops {hb : Nat} {fn : FuncId} {kind : KR} {ds : List Deferred} {all : Array Oper} {nt : Nat} {k : List Item} {cs : List Frame} :
    ∀ (n j : Nat), j + n = all.size → ∀ (g : T Value) (s : S) (ι : Inj) (w : World) (tmps : Array Value), TmpRel ι g tmps → tmps.size = nt → SRel P ι s w → hb ≤ s.nx → s.lo ≤ s.nx →
      OpsPost P hb fn kind ds all nt k cs ι s w (lone (mkF fn kind tmps ds (.inRegion all (List.range' j n) :: k)) cs w) (runOps (mkCls P nt all (all.toList.drop j)) g s) := by
  intro n
  induction n with
  | zero =>
    intro j hj g s ι w tmps ht hn hS hhb hlo
    have : all.toList.drop j = [] := List.drop_eq_nil_of_le (by simp; omega)
    rw [this]
    exact ⟨ι, w, tmps, .one (stepR_region_end (b := bs fn kind) (a := ⟨tmps, ds⟩)), ht, hn, hS, Fm.refl _ _ _ _⟩
  | succ n ih =>
    intro j hj g s ι w tmps ht hn hS hhb hlo
    have hjl : j < all.size := by omega
    obtain ⟨o, ho⟩ : ∃ o, all[j]? = some o := ⟨_, Array.getElem?_eq_getElem hjl⟩
    rw [drop_cons ho]
    have hrg : List.range' j (n + 1) = j :: List.range' (j + 1) n := by simp [List.range'_succ]
    rw [hrg]
    have hnn : all.size - (j + 1) = n := by omega
    simp only [mkCls]
    rcases mkCl_cases (P := P) nt all o with hc | ⟨gd, hc, hm, hd, hgk⟩
    · rw [hc]; simp only [runOps, gdT, rdNo]; trivial
    · rw [hc]
      simp only [runOps]
      cases hgt : gdT gd g with
      | none => trivial
      | some b =>
        have hw := gd_rel hm hgk hn ht hgt
        cases b with
        | false =>
          simp only []
          refine .of_steps (.one (st_skip ho hw)) (Fm.refl hb ι s w) ?_
          exact ih (j + 1) (by omega) _ s ι w _ (ht.putD hn hd (.tuple .nil)) (by rw [pt_size]; exact hn) hS hhb hlo
        | true =>
          simp only []
          have hok := cr_ok (P := P) o
          have hrho := ht.rho o.op.operands.toList
          cases hcr : cr P o.op with
          | pu f =>
            rw [hcr] at hok
            simp only []
            cases hf : f g with
            | none => trivial
            | some v =>
              simp only []
              obtain ⟨v', hv, hrun⟩ := hok ι g _ v hf hrho
              refine .of_steps (.one (st_value ho hw (.inl (hrun w)))) (Fm.refl hb ι s w) ?_
              exact ih (j + 1) (by omega) _ s ι w _ (ht.putD hn hd hv) (by rw [pt_size]; exact hn) hS hhb hlo
          | rd f =>
            rw [hcr] at hok
            simp only []
            cases hf : f g s with
            | none => trivial
            | some v =>
              simp only []
              obtain ⟨v', hv, hrun⟩ := hok ι s w g _ v hf hS hrho
              refine .of_steps (.one (st_value ho hw (.inl hrun))) (Fm.refl hb ι s w) ?_
              exact ih (j + 1) (by omega) _ s ι w _ (ht.putD hn hd hv) (by rw [pt_size]; exact hn) hS hhb hlo
          | al f =>
            rw [hcr] at hok
            simp only []
            cases hf : f g with
            | none => trivial
            | some om =>
              obtain ⟨ob, mk⟩ := om
              simp only []
              obtain ⟨hp, hall⟩ := hok ι g _ ob mk hf hrho
              obtain ⟨top, o', w', v', hpush, hrun, hrel⟩ := hall w
              have hfr : ι s.nx = none := hS.fresh _ (Nat.le_refl _)
              have hx := Ext.up ⟨w.heap.size, 0, top⟩ hfr
              obtain ⟨r1, r2⟩ := hrel _ s.nx hx (Inj.up_self _ _ _)
              have hF := Fm.push (hb := hb) (o := ob) hS hhb hlo (top := top) hpush
              refine .of_steps (.one (st_value ho hw (.inl hrun))) hF ?_
              exact ih (j + 1) (by omega) _ _ _ _ _ ((ht.mono hx).putD hn hd r2) (by rw [pt_size]; exact hn) (hS.push hp hpush r1) (by rw [S.push_nx]; omega) (by rw [S.push_nx, S.push_lo]; omega)
          | hd f =>
            rw [hcr] at hok
            simp only []
            by_cases hval : ∃ v s1, f g s = .val v s1
            · obtain ⟨v, s1, hf⟩ := hval
              rw [hf]
              simp only []
              have hpost := hok hb ι s w g _ hS hhb hlo hrho
              rw [hf] at hpost
              obtain ⟨ι', w', v', hrun, hv, hS', hF⟩ := hpost
              refine .of_steps (.one (st_value ho hw hrun)) hF ?_
              have := hF.nx; have := hF.lo
              exact ih (j + 1) (by omega) _ _ _ _ _ ((ht.mono hF.ext).putD hn hd hv) (by rw [pt_size]; exact hn) hS' (by omega) (by omega)
            · have hnv : ∀ v s1, f g s ≠ .val v s1 := fun v s1 h => hval ⟨v, s1, h⟩
              have fin : OpsPost P hb fn kind ds all nt k cs ι s w (lone (mkF fn kind tmps ds (.inRegion all (j :: List.range' (j + 1) n) :: k)) cs w)
                  (.at_ (⟨.hd f, o.dst, gd⟩ :: mkCls P nt all (all.toList.drop (j + 1))) g s (f g s)) := by
                refine ⟨ι, w, tmps, j, o, ⟨by rw [hnn]; exact .refl _ _, ht, hn, hS, Fm.refl _ _ _ _⟩, ?_, hd, ho, hw, ?_, hnv⟩
                · rw [hcr]; rfl
                · intro hb' hle
                  exact hok hb' ι s w g _ hS hle hlo hrho
              cases hr : f g s with
              | val v s1 => exact absurd hr (hnv _ _)
              | _ => rw [hr] at fin; exact fin

end Go.AM
