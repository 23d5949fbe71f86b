/- Stores. -/
import Derived.Test.YteoodndfkdfnaaaGreatDoorAmConv
namespace Go.AM
variable {P : Program} {o : Oper} {ι : Inj} {s : S} {w : World}

theorem WPut.trans {w w' w'' : World} {b : Nat} {o o' : Obj} (h : WPut w w' b o) (k : WPut w' w'' b o') : WPut w w'' b o' :=
  ⟨k.at_, fun c hc => by rw [k.other c hc, h.other c hc], by rw [k.size, h.size], by rw [k.os, h.os], by rw [k.out, h.out], by rw [k.tape, h.tape]⟩

theorem setCell_put {w : World} {b i : Nat} {cells : Array Value} {e : TypeId} {fr : Nat × Nat} (h : w.heap[b]? = some (.cells cells e fr)) (v : Value) :
    WPut w (w.setCell ⟨b, i, none⟩ v) b (.cells (cells.setIfInBounds i v) e fr) := by
  refine ⟨?_, fun c hc => ?_, ?_, rfl, rfl, rfl⟩
  · simp [World.setCell, Array.getElem?_modify, h]
  · simp [World.setCell, Array.getElem?_modify, Ne.symm hc]
  · simp [World.setCell]

def setAll (cur : Array Value) : Nat → List Value → Array Value
  | _, [] => cur
  | i, v :: vs => setAll (cur.setIfInBounds i v) (i + 1) vs
theorem setAll_size : ∀ (vs : List Value) (cur : Array Value) (i : Nat), (setAll cur i vs).size = cur.size
  | [], _, _ => rfl
  | v :: vs, cur, i => by simp [setAll, setAll_size vs]
theorem setAll_get : ∀ (vs : List Value) (cur : Array Value) (i k : Nat), i + vs.length ≤ cur.size → (setAll cur i vs)[k]? = if i ≤ k ∧ k < i + vs.length then vs[k - i]? else cur[k]?
  | [], cur, i, k, h => by simp [setAll]; intro h1 h2; omega
  | v :: vs, cur, i, k, h => by
    simp only [setAll]
    simp only [List.length_cons] at h
    rw [setAll_get vs _ (i + 1) k (by simp; omega)]
    by_cases h1 : i + 1 ≤ k ∧ k < i + 1 + vs.length
    · rw [if_pos h1, if_pos (by simp; omega)]
      obtain ⟨j, rfl⟩ : ∃ j, k = i + 1 + j := ⟨k - (i + 1), by omega⟩
      rw [show i + 1 + j - (i + 1) = j by omega, show i + 1 + j - i = j + 1 by omega]; rfl
    · rw [if_neg h1]
      by_cases h2 : k = i
      · subst h2
        rw [if_pos (by simp)]
        rw [Array.getElem?_setIfInBounds_self_of_lt (by omega)]
        simp
      · rw [if_neg (by simp; omega), Array.getElem?_setIfInBounds_ne (Ne.symm h2)]

theorem run_storeCells_any {b off : Nat} {e : TypeId} {fr : Nat × Nat} : ∀ (vs : List Value) (i : Nat) (cur : Array Value) (w : World), w.heap[b]? = some (.cells cur e fr) →
    (fr = (0, 0) ∨ fr = (cur.size, cur.size + 1)) → off + i + vs.length ≤ cur.size → (∀ v ∈ vs, v.oneCell' = true) →
    ∃ w', (storeCells ⟨b, off, none⟩ vs i).run P w = .ok () w' ∧ WPut w w' b (.cells (setAll cur (off + i) vs) e fr)
  | [], i, cur, w, h, _, _, _ => ⟨w, rfl, ⟨h, fun _ _ => rfl, rfl, rfl, rfl, rfl⟩⟩
  | v :: vs, i, cur, w, h, hf, hl, hv => by
    have hc : w.cell? ⟨b, off + i, none⟩ = cur[off + i]? := cell_of_heap h
    simp only [List.length_cons] at hl
    have hlt : off + i < cur.size := by omega
    have hfz : w.frozen? ⟨b, off + i, none⟩ = false := by
      rw [frozen_of_heap h]
      rcases hf with rfl | rfl
      · simp
      · have : ¬ cur.size ≤ off + i := by omega
        simp [this]
    have hput := setCell_put (i := off + i) h v
    obtain ⟨w', h1, h2⟩ := run_storeCells_any (b := b) (off := off) (e := e) (fr := fr) vs (i + 1) (cur.setIfInBounds (off + i) v) _ hput.at_ (by simpa using hf) (by simp; omega) (fun u hu => hv u (by simp [hu]))
    refine ⟨w', ?_, hput.trans ?_⟩
    · simp only [storeCells, Sem.run_bind, Addr.add_none, run_store P w _ v _ (hv v (by simp)), hc, Array.getElem?_eq_getElem hlt, hfz, Bool.false_eq_true, if_false, Result.andThen_ok]
      exact h1
    · simpa [setAll, Nat.add_assoc] using h2

theorem storeL_spec {n : Nat} : ∀ {vs : List Value} {c c' : T Value} {i : Nat}, storeL c n vs i = some c' →
    (vs = [] ∨ i + vs.length ≤ n) ∧ ∀ k, c'.get k = if i ≤ k ∧ k < i + vs.length then vs[k - i]? else c.get k
  | [], c, c', i, h => by
    simp only [storeL, Option.some.injEq] at h; subst h
    refine ⟨.inl rfl, fun k => ?_⟩
    rw [if_neg (by simp only [List.length_nil]; omega)]
  | v :: vs, c, c', i, h => by
    simp only [storeL] at h
    cases hb : Nat.blt i n with
    | false => rw [hb] at h; cases h
    | true =>
      rw [hb] at h; simp only [cond_true] at h
      simp only [Nat.blt_eq] at hb
      obtain ⟨h1, h2⟩ := storeL_spec h
      refine ⟨.inr ?_, fun k => ?_⟩
      · rcases h1 with rfl | h1
        · simp; omega
        · simp; omega
      · rw [h2 k, T.get_set]
        by_cases hk : Nat.succ i ≤ k ∧ k < Nat.succ i + vs.length
        · rw [if_pos hk, if_pos (by simp; omega)]
          obtain ⟨j, rfl⟩ : ∃ j, k = i + 1 + j := ⟨k - (i + 1), by omega⟩
          rw [show i + 1 + j - Nat.succ i = j by omega, show i + 1 + j - i = j + 1 by omega]; rfl
        · rw [if_neg hk]
          by_cases e : k = i
          · subst e; rw [if_pos rfl, if_pos (by simp)]; simp
          · rw [if_neg e, if_neg (by simp; omega)]

theorem cellOk_one {ι : Inj} {v v' : Value} (h : cellOk v = true) (r : VRel ι v v') : v'.oneCell' = true := by
  cases r <;> first | rfl | simp [cellOk] at h
theorem allCells_one {ι : Inj} : ∀ {l l' : List Value}, allCells l = true → VRelL ι l l' → ∀ v ∈ l', v.oneCell' = true
  | _, _, _, .nil, v, hv => by simp at hv
  | _, _, h, .cons a b, v, hv => by
    simp only [allCells, Bool.and_eq_true] at h
    rcases List.mem_cons.1 hv with rfl | hm
    · exact cellOk_one h.1 a
    · exact allCells_one h.2 b v hm

/-- no row that stands lies over one that may be written; what lies under it goes first -/
theorem SRel.killed {hb : Nat} (h : SRel P ι s w) {b : Nat} {x : Blk} {s1 : S} (hi : ι b ≠ none) (hg : s.h.get b = some (.blk x)) (hst : x.st = 0) (hk : s.kill x.par = some s1) :
    SRel P ι s1 w ∧ Fm hb ι s w ι s1 w ∧ s1.nx = s.nx ∧ s1.lo = s.lo ∧ s1.h.get b = some (.blk x) ∧
      (∀ id2 l l2 o2, ι b = some l → id2 ≠ b → ι id2 = some l2 → l2.blk = l.blk → s1.h.get id2 = some o2 → Dead o2) ∧
      (∀ id2 o2, s1.h.get id2 = some o2 → ι id2 ≠ none → ¬ Dead o2 → ¬ Par o2 b) := by
  have hnd : ¬ Dead (.blk x) := by simp [Dead, hst]
  have hchild : ∀ id2 o2, s.h.get id2 = some o2 → ι id2 ≠ none → ¬ Dead o2 → ¬ Par o2 b := by
    intro id2 o2 a c d e
    obtain ⟨_, y⟩ := h.par id2 o2 b a c d e
    obtain ⟨b', e1, e2⟩ := y _ hg
    cases e1; exact e2 hst
  obtain ⟨xc, xn, xe, xp, xst⟩ := x
  cases xp with
  | none =>
    simp only [S.kill, Option.some.injEq] at hk; subst hk
    refine ⟨h, Fm.refl _ _ _ _, rfl, rfl, hg, ?_, hchild⟩
    intro id2 l l2 o2 hl hne hl2 hbl hg2
    rcases h.alias b id2 l l2 _ o2 (Ne.symm hne) hl hl2 hbl.symm hg hg2 with a | a | a | a
    · exact absurd a hnd
    · exact a
    · simp [Par] at a
    · by_cases hd : Dead o2
      · exact hd
      · exact absurd a (hchild id2 o2 hg2 (by rw [hl2]; simp) hd)
  | some p =>
    have hpb : Par (.blk ⟨xc, xn, xe, some p, xst⟩) p := rfl
    obtain ⟨hip, _⟩ := h.par b _ p hg hi hnd hpb
    obtain ⟨k1, k2, k3, k4, k5, bb, k6, k7⟩ := h.kill (hb := hb) hk hip
    have hne : b ≠ p := fun e => by subst e; exact hchild b _ hg hi hnd hpb
    refine ⟨k1, k2, k3, k4, by rw [k5 b hne]; exact hg, ?_, ?_⟩
    · intro id2 l l2 o2 hl hne2 hl2 hbl hg2
      by_cases e : id2 = p
      · subst e; rw [k6] at hg2; cases hg2; simp [Dead, k7]
      · rw [k5 id2 e] at hg2
        rcases h.alias b id2 l l2 _ o2 (Ne.symm hne2) hl hl2 hbl.symm hg hg2 with a | a | a | a
        · exact absurd a hnd
        · exact a
        · simp only [Par, Option.some.injEq] at a; exact absurd a.symm e
        · by_cases hd : Dead o2
          · exact hd
          · exact absurd a (hchild id2 o2 hg2 (by rw [hl2]; simp) hd)
    · intro id2 o2 hg2 a c
      by_cases e : id2 = p
      · subst e; rw [k6] at hg2; cases hg2; exact absurd (by simp [Dead, k7]) c
      · rw [k5 id2 e] at hg2; exact hchild id2 o2 hg2 a c

theorem store_rel {hb : Nat} (h : SRel P ι s w) {b off : Nat} {l : Loc} {vs vs' : List Value} {s' : S} (hi : ι b = some l) (hst : s.store b off vs = some s') (hr : VRelL ι vs vs') (hc : allCells vs = true) :
    ∃ w', (storeCells ⟨l.blk, l.base + off, none⟩ vs').run P w = .ok () w' ∧ SRel P ι s' w' ∧ Fm hb ι s w ι s' w' ∧ s'.nx = s.nx := by
  unfold S.store at hst
  cases hbk : s.blk? b with
  | none => simp [hbk] at hst
  | some x =>
    obtain ⟨c, n, e, p, st⟩ := x
    simp only [hbk] at hst
    cases hk : Nat.beq st 0 && Nat.ble s.lo b with
    | false => rw [hk] at hst; cases hst
    | true =>
      rw [hk] at hst; simp only [cond_true] at hst
      simp only [Bool.and_eq_true, Nat.beq_eq, Nat.ble_eq] at hk
      obtain ⟨rfl, hlo⟩ := hk
      cases hsl : storeL c n vs off with
      | none => simp [hsl] at hst
      | some c' =>
        cases hkl : s.kill p with
        | none => simp [hsl, hkl] at hst
        | some s1 =>
          simp only [hsl, hkl, Option.some.injEq] at hst; subst hst
          rw [S.blk?_eq] at hbk
          obtain ⟨k1, k2, k3, k4, k5, k6, k7⟩ := h.killed (hb := hb) (x := ⟨c, n, e, p, 0⟩) (by rw [hi]; simp) hbk rfl hkl
          obtain ⟨cells, fr, h1, hsz, htop, h4, hfr⟩ := h.row hi hbk (by omega)
          obtain ⟨hbd, hget⟩ := storeL_spec hsl
          have hlen := hr.length
          by_cases hvs : vs = []
          · subst hvs
            cases hr
            have hput : WPut w w l.blk (.cells cells e fr) := ⟨h1, fun _ _ => rfl, rfl, rfl, rfl, rfl⟩
            refine ⟨w, rfl, k1.put hi k5 (fun q => by simp [Par]) (fun id2 l2 o2 a b' c' d => k6 id2 l l2 o2 hi a b' c' d) k7 hput ?_, k2.trans (Fm.put hi k5 (by simp [NotHole]) (by rw [k4]; exact hlo) hput), by rw [S.put_nx, k3]⟩
            refine .blk hsz htop (fun i v hv hn => ?_) (by rw [hsz] at *; exact hfr)
            rw [hget i, if_neg (by simp only [List.length_nil]; omega)] at hv
            exact h4 i v hv hn
          · have hbd' : off + vs.length ≤ n := hbd.resolve_left hvs
            obtain ⟨w', r1, r2⟩ := run_storeCells_any (P := P) (b := l.blk) (off := l.base + off) vs' 0 cells w h1 (by rw [hsz]; exact hfr) (by omega) (allCells_one hc hr)
            simp only [Nat.add_zero] at r2
            refine ⟨w', r1, k1.put hi k5 (fun q => by simp [Par]) (fun id2 l2 o2 a b' c' d => k6 id2 l l2 o2 hi a b' c' d) k7 r2 ?_, k2.trans (Fm.put hi k5 (by simp [NotHole]) (by rw [k4]; exact hlo) r2), by rw [S.put_nx, k3]⟩
            refine .blk (by rw [setAll_size]; exact hsz) htop (fun i v hv hn => ?_) hfr
            rw [hget i] at hv
            rw [setAll_get _ _ _ _ (by omega)]
            by_cases hin : off ≤ i ∧ i < off + vs.length
            · rw [if_pos hin] at hv
              rw [if_pos (by omega)]
              obtain ⟨v', x1, x2⟩ := hr.get hv
              exact ⟨v', by rw [← x1]; congr 1; omega, x2⟩
            · rw [if_neg hin] at hv
              rw [if_neg (by omega)]
              exact h4 i v hv hn

theorem ok_store {t : TypeId} {a x : Operand} (ho : o.op = .store t a x) : RunOk P o (cr P (.store t a x)) := by
  simp only [cr]
  cases hx : opdOk a && opdOk x with
  | false => exact RunOk.no _ _
  | true =>
    simp only [Bool.and_eq_true] at hx
    simp only [cond_true]
    cases hs : szOf P t with
    | none => exact RunOk.no _ _
    | some n =>
      intro hb ι s w g ρ hS hn hlo hr
      have hra := hr a (by simp [ho, Op.operands]) hx.1
      have hrx := hr x (by simp [ho, Op.operands]) hx.2
      cases he : ev g a with
      | pointer p =>
        cases p with
        | none => simp only [he]; trivial
        | some p =>
          simp only [he]
          cases hc : cellsOf (ev g x) with
          | none => trivial
          | some cs =>
            simp only []
            cases hk : Nat.beq cs.length n && allCells cs with
            | false => trivial
            | true =>
              simp only [cond_true]
              simp only [Bool.and_eq_true, Nat.beq_eq] at hk
              cases hst : s.store p.block p.off cs with
              | none => trivial
              | some s' =>
                rw [he] at hra
                obtain ⟨l, hi, e⟩ := hra.ptr_inv
                have hcs := cellsOf_rel hc hrx
                obtain ⟨w', r1, r2, r3, _⟩ := store_rel (hb := hb) hS hi hst hcs hk.2
                refine ⟨ι, w', undef, .inr ⟨?_, rfl⟩, .tuple .nil, r2, r3⟩
                have hsz : (ρ x).cells.size = n := by have := hcs.length; simp at this; omega
                have : ¬ ((ρ x).cells.size ≠ n) := by simp [hsz]
                simp [execOp, ho, e, Instr.storeAt, Instr.sureAddr, storeVar, run_sizeOf' hs, this, r1]
      | _ => simp only [he]; trivial

end Go.AM
