/- append: the two machines side by side. -/
import Derived.Test.YteoodndfkdfnaaaGreatDoorAmAppend
namespace Go.AM
variable {P : Program} {o : Oper} {ι : Inj} {s : S} {w w' : World} {hb : Nat}

/-- an object that nothing stood for gets its place -/
theorem SRel.bind (h : SRel P ι s w) {b : Nat} {l' : Loc} {o : AObj} {o' : Obj} (hu : ι b = none) (hg : s.h.get b = some o) (hn : b < s.nx)
    (hp : ∀ p, Par o p → ι p ≠ none ∧ ∀ o', s.h.get p = some o' → ∃ bb : Blk, o' = .blk bb ∧ bb.st ≠ 0)
    (hold : ∀ c, c < w.heap.size → w'.heap[c]? = w.heap[c]?) (hsz : w.heap.size ≤ w'.heap.size) (hlt : l'.blk < w'.heap.size)
    (hat : w'.heap[l'.blk]? = some o') (hr : ORel P (ι.up b l') l' o o')
    (hal : ∀ id2 l2 o2, ι id2 = some l2 → l2.blk = l'.blk → s.h.get id2 = some o2 → Dead o2 ∨ Par o id2) : SRel P (ι.up b l') s w' := by
  have hx := Ext.up l' hu
  refine ⟨?_, ?_, ?_, ?_, ?_⟩
  · intro id l ob a c
    by_cases e : id = b
    · subst e
      rw [Inj.up_self] at a; cases a
      rw [hg] at c; cases c
      exact ⟨o', hat, hr⟩
    · rw [Inj.up_ne _ _ e] at a
      obtain ⟨x, y, r⟩ := h.obj id l ob a c
      exact ⟨x, by rw [hold _ (h.bound _ _ a)]; exact y, r.mono hx⟩
  · intro id hi
    rw [Inj.up_ne _ _ (by omega)]; exact h.fresh id hi
  · intro id l a
    by_cases e : id = b
    · subst e; rw [Inj.up_self] at a; cases a; exact hlt
    · rw [Inj.up_ne _ _ e] at a; have := h.bound _ _ a; omega
  · intro id1 id2 l1 l2 o1 o2 hne a c e d f
    by_cases e1 : id1 = b
    · subst e1; rw [Inj.up_self] at a; cases a
      rw [Inj.up_ne _ _ (Ne.symm hne)] at c
      rw [hg] at d; cases d
      rcases hal id2 l2 o2 c e.symm f with x | x
      · exact .inr (.inl x)
      · exact .inr (.inr (.inl x))
    · rw [Inj.up_ne _ _ e1] at a
      by_cases e2 : id2 = b
      · subst e2; rw [Inj.up_self] at c; cases c
        rw [hg] at f; cases f
        rcases hal id1 l1 o1 a e d with x | x
        · exact .inl x
        · exact .inr (.inr (.inr x))
      · rw [Inj.up_ne _ _ e2] at c
        exact h.alias id1 id2 l1 l2 o1 o2 hne a c e d f
  · intro id ob p c a hd hpp
    have key : ι p ≠ none → ι.up b l' p ≠ none := fun x => by
      by_cases e2 : p = b
      · subst e2; rw [Inj.up_self]; simp
      · rw [Inj.up_ne _ _ e2]; exact x
    by_cases e : id = b
    · subst e; rw [hg] at c; cases c
      exact ⟨key (hp p hpp).1, (hp p hpp).2⟩
    · rw [Inj.up_ne _ _ e] at a
      obtain ⟨x, y⟩ := h.par id ob p c a hd hpp
      exact ⟨key x, y⟩

theorem Fm.bind {b : Nat} {l' : Loc} (hu : ι b = none) (hbb : hb ≤ b)
    (hold : ∀ c, c < w.heap.size → w'.heap[c]? = w.heap[c]?) (hsz : w.heap.size ≤ w'.heap.size)
    (hl : w.heap.size ≤ l'.blk ∨ OwnedL ι s l'.blk) (os : w'.os = w.os) (out : w'.output = w.output) (tape : w'.tape = w.tape) : Fm hb ι s w (ι.up b l') s w' := by
  refine { ext := Ext.up _ hu, keep := ?_, new := ?_, heap := fun c hc _ => hold c hc, own := ?_, ownL := ?_, absent := fun _ _ h => h, low := fun _ _ => rfl, lo := rfl, nx := Nat.le_refl _,
           size := hsz, os := os, out := out, tape := tape }
  · intro id hi hn; exact ⟨by rw [Inj.up_ne _ _ (by omega)]; exact hn, rfl⟩
  · intro id l hn hs
    by_cases e : id = b
    · subst e; rw [Inj.up_self] at hs; cases hs; exact hl
    · rw [Inj.up_ne _ _ e, hn] at hs; cases hs
  · rintro c hc ⟨id, l, ob, a, e, g, d⟩
    by_cases e1 : id = b
    · subst e1; rw [Inj.up_self] at a; cases a
      rcases hl with x | ⟨i, l, o, _, x⟩
      · omega
      · exact e ▸ ⟨i, l, o, x⟩
    · rw [Inj.up_ne _ _ e1] at a; exact ⟨id, l, ob, a, e, g, d⟩
  · rintro c hc ⟨id, l, ob, z, a, e, g, d⟩
    by_cases e1 : id = b
    · subst e1; rw [Inj.up_self] at a; cases a
      rcases hl with x | x
      · omega
      · exact e ▸ x
    · rw [Inj.up_ne _ _ e1] at a; exact ⟨id, l, ob, z, a, e, g, d⟩

/-- the model's append of given cells -/
structure AppRun (P : Program) (argT : Array TypeId) (ty e : TypeId) (z : Value) (size bytes : Nat) (w : World) (y' : Value) (new' : Array Value) (n : Nat) : Prop where
  in_ : ∀ base len cap w', len + n ≤ cap → (∀ a, base = some a → (storeCells (a.add (len * size)) new'.toList).run P w = .ok () w') → (base = none → w' = w) →
    (Builtin.append_ argT ty #[.slice base len cap, y']).run P w = .ok (.slice base (len + n) cap) w'
  out : ∀ base len cap old, (∀ w1, WSame w w1 → (Builtin.firstCells size len (.slice base len cap)).run P w1 = .ok old w1) → cap < len + n → (len + n) * bytes ≤ 1000000000 → len + n ≤ 1000000000 →
    ∃ nc d, len + n ≤ nc ∧ (Builtin.append_ argT ty #[.slice base len cap, y']).run P w =
      .ok (.slice (some ⟨w.heap.size, 0, none⟩) (len + n) nc) { w with heap := w.heap.push (.cells (old ++ new' ++ Builtin.zeroCells z.cells (nc - (len + n))) e), drawn := d }

/-- what an append adds -/
def ResPost (P : Program) (hb : Nat) (ι : Inj) (s : S) (w : World) (r : Sem Value) : OR → Prop
  | .val v s' => ∃ ι' w' v', r.run P w = .ok v' w' ∧ VRel ι' v v' ∧ SRel P ι' s' w' ∧ Fm hb ι s w ι' s' w'
  | .bad _ => True
  | _ => False

theorem VRelL.get_size {ι : Inj} {l l' : List Value} (h : VRelL ι l l') : l'.length = l.length := h.length.symm

theorem newB_out {ι : Inj} {e : TypeId} {cs : List Value} {cells : Array Value} {extra : Array Value} (k : Nat) (h : VRelL ι cs cells.toList) :
    ORel P ι ⟨k, 0, (cells ++ extra).size⟩ (newB e cs) (.cells (cells ++ extra) e) := by
  have hl := h.length
  simp only [Array.length_toList] at hl
  refine newB_rel k ?_ (by simp; omega) rfl (.inl rfl)
  simp only [Array.toList_append]
  rw [hl, ← Array.length_toList, List.take_left]
  exact h

theorem blk_of_newB {ι : Inj} {l : Loc} {e : TypeId} {cs : List Value} {o' : Obj} {q : Option Nat} {st : Nat} (h : ORel P ι l (newB e cs) o') : ORel P ι l (.blk ⟨T.ofList cs 0 .leaf, cs.length, e, q, st⟩) o' := by
  unfold newB at h
  cases h with
  | dead _ a => omega
  | blk a b c d => exact .blk a b c d

theorem load_run (h : SRel P ι s w) {a : Addr} {n len cap c' off' : Nat} {l : Loc} {vs : List Value} (hi : ι a.block = some l) (hc : s.load a.block a.off (len * n) = some vs)
    (hle : len ≤ c') (hoff : c' ≠ 0 → off' = l.base + a.off) :
    ∃ vs' : Array Value, VRelL ι vs vs'.toList ∧ vs'.size = len * n ∧ ∀ w1, WSame w w1 → (Builtin.firstCells n len (.slice (some ⟨l.blk, off', none⟩) len cap)).run P w1 = .ok vs' w1 := by
  obtain ⟨vs', h1, h2, h3⟩ := load_rel h hi hc
  refine ⟨vs'.toArray, by simpa using h1, by simpa using h2, fun w1 hw => ?_⟩
  simp only [Builtin.firstCells]
  by_cases h0 : c' = 0
  · have : len = 0 := by omega
    subst this
    simp only [Nat.zero_mul] at h2 ⊢
    have : vs' = [] := List.eq_nil_of_length_eq_zero h2
    subst this
    simp [loadCells, loadCellsFrom]
  · rw [hoff h0, ← h2]
    refine run_loadCells_list _ _ _ fun j v hj => ?_
    rw [← h3 j v hj]
    simp only [World.cell?, hw.heap]

theorem loadS (h : SRel P ι s w) {b off n : Nat} {l : Loc} {vs : List Value} (hi : ι b = some l) (hc : s.load b off n = some vs) :
    vs.length = n ∧ True ∧ ∀ cells e fr, w.heap[l.blk]? = some (.cells cells e fr) → ∀ i v, vs[i]? = some v → ∃ v', cells[l.base + (off + i)]? = some v' ∧ VRel ι v v' := by
  unfold S.load at hc
  cases hb : s.blk? b with
  | none => simp [hb] at hc
  | some x =>
    obtain ⟨c, m, e, p, st⟩ := x
    simp only [hb] at hc
    cases hk : Nat.blt st 2 && Nat.ble (Nat.add off n) m with
    | false => rw [hk] at hc; cases hc
    | true =>
      rw [hk] at hc; simp only [cond_true] at hc
      simp only [Bool.and_eq_true, Nat.blt_eq, Nat.ble_eq] at hk
      obtain ⟨hst, hle⟩ := hk
      obtain ⟨h1, h2⟩ := loadL_spec hc
      rw [S.blk?_eq] at hb
      obtain ⟨cells, fr, q1, q2, q3, q4, q5⟩ := h.row hi hb hst
      refine ⟨h1, trivial, fun cells' e' fr' hh i v hv => ?_⟩
      rw [q1] at hh; cases hh
      have hlt : i < n := by rw [← h1]; exact (List.getElem?_eq_some_iff.1 hv).1
      obtain ⟨v0, x1, x2⟩ := h2 i hlt
      rw [hv] at x2; cases x2
      have hle' : off + n ≤ m := hle
      exact q4 (off + i) v x1 (by omega)

theorem doAppend_ok (h : SRel P ι s w) (hn : hb ≤ s.nx) (hlo : s.lo ≤ s.nx) {argT : Array TypeId} {ty e : TypeId} {z : Value} {size bytes : Nat} {y' : Value} {new : List Value} {new' : Array Value} {n : Nat}
    (hA : AppRun P argT ty e z size bytes w y' new' n) (hnew : VRelL ι new new'.toList) (hns : new.length = n * size) (hs0 : size ≠ 0) (hz : z.cells.size = size) {x x' : Value} (hx : VRel ι x x') :
    ResPost P hb ι s w (Builtin.append_ argT ty #[x', y']) (doAppend s e size bytes x new n) := by
  unfold doAppend
  cases x with
  | slice base len cap =>
    simp only []
    cases hc : Nat.ble (len + n) cap with
    | true =>
      simp only [cond_true]
      have hc' : len + n ≤ cap := Nat.le_of_ble_eq_true hc
      cases base with
      | none =>
        have e := hx.nilslice_inv; subst e
        refine ⟨ι, w, _, hA.in_ none len cap w hc' (fun a h => by cases h) (fun _ => rfl), .nilslice _ _, h, Fm.refl _ _ _ _⟩
      | some a =>
        simp only []
        cases hac : allCells new with
        | false => trivial
        | true =>
          simp only [cond_true]
          cases hst : s.store a.block (a.off + len * size) new with
          | none => trivial
          | some s' =>
            simp only []
            obtain ⟨l, off', c', hi, hnc, hcc, hex, hop, hoff, e⟩ := hx.slice_inv; subst e
            obtain ⟨w', r1, r2, r3, _⟩ := store_rel (hb := hb) h hi hst hnew hac
            refine ⟨ι, w', _, hA.in_ (some ⟨l.blk, off', none⟩) len c' w' (by omega) ?_ (fun h => by cases h), ?_, r2, r3⟩
            · rintro a' ha'; cases ha'
              rw [Addr.add_none]
              by_cases h0 : c' = 0
              · have h00 : n = 0 := by omega
                subst h00
                have : new'.toList = [] := List.eq_nil_of_length_eq_zero (by rw [hnew.get_size, hns, Nat.zero_mul])
                rw [this] at r1 ⊢
                simpa [storeCells] using r1
              · rw [hoff h0, Nat.add_assoc]; exact r1
            · obtain ⟨ab, ao, asp⟩ := a
              exact .slice hi hc' (by omega) hex hop hoff
    | false =>
      simp only [cond_false]
      have hc' : cap < len + n := by
        rcases Nat.lt_or_ge cap (len + n) with x | x
        · exact x
        · rw [Nat.ble_eq_true_of_le x] at hc; cases hc
      cases hbd : Nat.ble ((len + n) * bytes) 1000000000 && Nat.ble (cap * bytes) 1000000000 && Nat.ble (len + n) 1000000000 && Nat.ble cap 1000000000 with
      | false => trivial
      | true =>
        simp only [cond_true]
        simp only [Bool.and_eq_true, Nat.ble_eq] at hbd
        obtain ⟨⟨⟨hb1, _⟩, hb3⟩, _⟩ := hbd
        -- a new block
        have hout : ∀ (base' : Option Addr) (c' : Nat) (old : List Value) (old' : Array Value), VRelL ι old old'.toList → old.length = len * size →
            (∀ w1, WSame w w1 → (Builtin.firstCells size len (.slice base' len c')).run P w1 = .ok old' w1) → c' < len + n →
            ∃ nc d ex, len + n ≤ nc ∧ (old' ++ new' ++ ex).size = nc * size ∧ (Builtin.append_ argT ty #[.slice base' len c', y']).run P w =
              .ok (.slice (some ⟨w.heap.size, 0, none⟩) (len + n) nc) { w with heap := w.heap.push (.cells (old' ++ new' ++ ex) e), drawn := d } := by
          intro base' c' old old' ho hol hf hlt
          obtain ⟨nc, d, h1, h2⟩ := hA.out base' len c' old' hf hlt hb1 hb3
          refine ⟨nc, d, _, h1, ?_, h2⟩
          have e1 : old'.size = len * size := by rw [← hol, ← Array.length_toList, ho.get_size]
          have e2 : new'.size = n * size := by rw [← hns, ← Array.length_toList, hnew.get_size]
          rw [Array.size_append, Array.size_append, e1, e2, zeroCells_size, hz, ← Nat.add_mul, ← Nat.add_mul]
          congr 1; omega
        -- and what stands for it
        have hnb : ∀ (s1 : S) (old : List Value) (old' : Array Value) (nc d : Nat) (ex : Array Value) (base' : Option Addr) (c' : Nat) (q : Option Nat), VRelL ι old old'.toList → SRel P ι s1 w → Fm hb ι s w ι s1 w → s1.nx = s.nx → s1.lo = s.lo →
            (∀ p, q = some p → ι p ≠ none ∧ ∀ o', s1.h.get p = some o' → ∃ bb : Blk, o' = .blk bb ∧ bb.st ≠ 0) →
            len + n ≤ nc → (old' ++ new' ++ ex).size = nc * size →
            (Builtin.append_ argT ty #[.slice base' len c', y']).run P w =
              .ok (.slice (some ⟨w.heap.size, 0, none⟩) (len + n) nc) { w with heap := w.heap.push (.cells (old' ++ new' ++ ex) e), drawn := d } →
            ResPost P hb ι s w (Builtin.append_ argT ty #[.slice base' len c', y']) (.val (openS size s.nx (len + n) (len + n)) (s1.push (.blk ⟨T.ofList (old ++ new) 0 .leaf, (old ++ new).length, e, q, 0⟩))) := by
          intro s1 old old' nc d ex base' c' q ho h1 f1 nx1 lo1 hq hnc hsz hrun
          have hrel : VRelL ι (old ++ new) (old' ++ new').toList := by simpa using ho.append hnew
          have hfr : ι s.nx = none := h.fresh _ (Nat.le_refl _)
          have hpush := WPush.mkD w (.cells (old' ++ new' ++ ex) e) d
          have hbl : ∀ (id2 : Nat) (l2 : Loc), ι id2 = some l2 → l2.blk ≠ w.heap.size := fun id2 l2 a e => by have := h.bound _ _ a; omega
          refine ⟨ι.up s.nx ⟨w.heap.size, 0, nc * size⟩, _, _, hrun, ?_, ?_, ?_⟩
          · refine .slice (Inj.up_self _ _ _) (Nat.le_refl _) hnc (by intro h; cases h) ?_ (fun _ => rfl)
            intro z' hz' _
            cases hz'
            simp
          · refine (h1.prepush _).bind hfr (o := .blk ⟨T.ofList (old ++ new) 0 .leaf, (old ++ new).length, e, q, 0⟩) (by rw [S.push_get, nx1, if_pos rfl]) (by rw [S.push_nx, nx1]; omega) ?_ hpush.other (by rw [hpush.size]; omega) (by rw [hpush.size]; exact Nat.lt_succ_self _) hpush.at_ ?_ ?_
            · intro p hp
              simp only [Par] at hp
              obtain ⟨a, b⟩ := hq p hp
              refine ⟨a, fun o' ho' => b o' ?_⟩
              rw [S.push_get, if_neg (fun e => a (by rw [e, nx1]; exact hfr))] at ho'; exact ho'
            · have := newB_out (P := P) (ι := ι) (e := e) (extra := ex) w.heap.size hrel
              rw [hsz] at this
              exact (blk_of_newB this).mono (Ext.up _ hfr)
            · intro id2 l2 o2 a b _
              exact absurd b (hbl id2 l2 a)
          · refine (f1.trans (Fm.prepush h1 (by rw [nx1]; exact hn) (by rw [nx1, lo1]; exact hlo) (.blk ⟨T.ofList (old ++ new) 0 .leaf, (old ++ new).length, e, q, 0⟩))).trans ?_
            exact Fm.bind hfr hn hpush.other (by rw [hpush.size]; omega) (.inl (Nat.le_refl _)) hpush.os hpush.out hpush.tape
        cases base with
        | none =>
          have e := hx.nilslice_inv; subst e
          simp only []
          cases hl0 : Nat.beq len 0 with
          | false => trivial
          | true =>
            simp only [cond_true]
            have hl0' : len = 0 := Nat.eq_of_beq_eq_true hl0
            subst hl0'
            obtain ⟨nc, d, ex, q1, q2, q3⟩ := hout none cap [] #[] .nil (by simp) (fun w1 _ => rfl) hc'
            have := hnb s [] #[] nc d ex none cap none .nil h (Fm.refl _ _ _ _) rfl rfl (fun p hp => by cases hp) q1 q2 q3
            simpa [newB] using this
        | some a =>
          obtain ⟨l, off', c', hi, hnc, hcc, hex, hop, hoff, ee⟩ := hx.slice_inv; subst ee
          simp only []
          cases hld : s.load a.block a.off (len * size) with
          | none => trivial
          | some old =>
            simp only []
            obtain ⟨old', o1, o2, o3⟩ := load_run (cap := c') h hi hld (by omega) hoff
            have o4 : old.length = len * size := by rw [← o2, ← Array.length_toList, o1.get_size]
            cases hsp : a.spot with
            | none =>
              simp only []
              have hcc' := hex hsp; subst hcc'
              obtain ⟨nc, d, ex, q1, q2, q3⟩ := hout (some ⟨l.blk, off', none⟩) _ old old' o1 o4 o3 hc'
              exact hnb s old old' nc d ex _ _ none o1 h (Fm.refl _ _ _ _) rfl rfl (fun p hp => by cases hp) q1 q2 q3
            | some zz =>
              simp only []
              cases hbk : s.blk? a.block with
              | none => trivial
              | some bk =>
                obtain ⟨c, m, e', p, st⟩ := bk
                simp only []
                cases hcond : Nat.beq st 0 && Nat.beq m (a.off + len * size) && Nat.beq zz size && Nat.beq e e' && allCells new && Nat.ble s.lo a.block with
                | false => trivial
                | true =>
                  simp only [cond_true]
                  simp only [Bool.and_eq_true, Nat.beq_eq, Nat.ble_eq] at hcond
                  obtain ⟨⟨⟨⟨⟨rfl, rfl⟩, rfl⟩, rfl⟩, hac⟩, hlo2⟩ := hcond
                  cases hk : s.kill p with
                  | none => trivial
                  | some s1 =>
                    simp only []
                    rw [S.blk?_eq] at hbk
                    obtain ⟨k1, k2, k3, k4, k5, k6, k7⟩ := h.killed (hb := hb) (x := ⟨c, _, e, p, 0⟩) (by rw [hi]; simp) hbk rfl hk
                    obtain ⟨cells, fr, h1, hsz, htop, h4, hfr⟩ := h.row hi hbk (by omega)
                    rw [k3]
                    have hne : s.nx ≠ a.block := fun x => by rw [← x, h.fresh _ (Nat.le_refl _)] at hi; cases hi
                    have hfrn : ι s.nx = none := h.fresh _ (Nat.le_refl _)
                    rcases Nat.lt_or_ge c' (len + n) with hout' | hin'
                    · -- a new block
                      obtain ⟨nc, d, ex, q1, q2, q3⟩ := hout (some ⟨l.blk, off', none⟩) _ old old' o1 o4 o3 hout'
                      have hput : WPut w w l.blk (.cells cells e fr) := ⟨h1, fun _ _ => rfl, rfl, rfl, rfl, rfl⟩
                      refine hnb (s1.put a.block (.blk ⟨c, _, e, none, 1⟩)) old old' nc d ex _ _ (some a.block) o1 ?_ ?_ (by rw [S.put_nx, k3]) (by rw [S.put_lo, k4]) ?_ q1 q2 q3
                      · exact k1.put hi k5 (fun q => by simp [Par]) (fun id2 l2 o2 a b' c' d => k6 id2 l l2 o2 hi a b' c' d) k7 hput (.blk hsz htop h4 (by rw [hsz] at *; exact hfr))
                      · exact k2.trans (Fm.put hi k5 (by simp [NotHole]) (by rw [k4]; exact hlo2) hput)
                      · rintro p' hp'; cases hp'
                        refine ⟨by rw [hi]; simp, fun o' ho' => ?_⟩
                        rw [S.put_get, if_pos rfl] at ho'; cases ho'
                        exact ⟨_, rfl, by simp⟩
                    · -- in place
                      have hc0 : c' ≠ 0 := by omega
                      have hroom := hop _ hsp hc0
                      have hoff' := hoff hc0
                      have hneed : (len + n) * zz ≤ c' * zz := Nat.mul_le_mul_right _ hin'
                      rw [Nat.add_mul] at hneed
                      have hnl : new'.toList.length = n * zz := by rw [hnew.get_size, hns]
                      obtain ⟨w', r1, r2⟩ := run_storeCells_any (P := P) (b := l.blk) (off := off' + len * zz) new'.toList 0 cells w h1 (by rw [hsz]; exact hfr) (by omega) (allCells_one hac hnew)
                      simp only [Nat.add_zero] at r2
                      have hS1 := k1.put hi k5 (o := .blk ⟨c, a.off + len * zz, e, none, 1⟩) (fun q => by simp [Par]) (fun id2 l2 o2 a b' c' d => k6 id2 l l2 o2 hi a b' c' d) k7 r2
                        (.blk (by rw [setAll_size]; exact hsz) htop (fun i v hv hn => by
                          rw [setAll_get _ _ _ _ (by omega), if_neg (by omega)]
                          exact h4 i v hv hn) hfr)
                      have hF1 := k2.trans (Fm.put (hb := hb) hi k5 (o := .blk ⟨c, a.off + len * zz, e, none, 1⟩) (by simp [NotHole]) (by rw [k4]; exact hlo2) r2)
                      generalize hs2 : s1.put a.block (.blk ⟨c, a.off + len * zz, e, none, 1⟩) = s2 at hS1 hF1 ⊢
                      have hnx2 : s2.nx = s.nx := by rw [← hs2, S.put_nx, k3]
                      have hlo2' : s2.lo = s.lo := by rw [← hs2, S.put_lo, k4]
                      have hg2 : s2.h.get a.block = some (.blk ⟨c, a.off + len * zz, e, none, 1⟩) := by rw [← hs2, S.put_get, if_pos rfl]
                      have hg3 : ∀ id, id ≠ a.block → s2.h.get id = s1.h.get id := fun id hid => by rw [← hs2, S.put_get, if_neg hid]
                      have hlast : l.blk < w'.heap.size := by rw [r2.size]; exact h.bound _ _ hi
                      refine ⟨ι.up s.nx ⟨l.blk, l.base + a.off, l.top⟩, w', _, hA.in_ (some ⟨l.blk, off', none⟩) len c' w' hin' ?_ (fun h => by cases h), ?_, ?_, ?_⟩
                      · rintro a' ha'; cases ha'
                        rw [Addr.add_none]; exact r1
                      · refine .slice (l := ⟨l.blk, l.base + a.off, l.top⟩) (Inj.up_self _ _ _) (Nat.le_refl _) hin' (by intro h; cases h) ?_ (fun _ => by simp [hoff'])
                        intro z' hz' _
                        cases hz'
                        simpa using hroom
                      · refine (hS1.prepush _).bind hfrn (o := .blk ⟨T.ofList (old ++ new) 0 .leaf, (old ++ new).length, e, some a.block, 0⟩) (by rw [S.push_get, hnx2, if_pos rfl]) (by rw [S.push_nx, hnx2]; omega) ?_ (fun _ _ => rfl) (Nat.le_refl _) hlast r2.at_ ?_ ?_
                        · rintro p' hp'
                          simp only [Par, Option.some.injEq] at hp'; subst hp'
                          refine ⟨by rw [hi]; simp, fun o' ho' => ?_⟩
                          rw [S.push_get, if_neg (by rw [hnx2]; exact Ne.symm hne), hg2] at ho'; cases ho'
                          exact ⟨_, rfl, by simp⟩
                        · refine ORel.mono (Ext.up _ hfrn) ?_
                          have hol : old'.toList.length = len * zz := by simpa using o2
                          refine .blk (by rw [setAll_size]; exact hsz) (by simp only [List.length_append]; omega) ?_ hfr
                          intro i v hv hil
                          rw [T.get_ofList] at hv
                          simp only [Nat.zero_le, true_and, Nat.zero_add] at hv
                          rw [if_pos hil] at hv
                          simp only [Nat.sub_zero] at hv
                          simp only [List.length_append] at hil
                          dsimp only
                          rw [setAll_get _ _ _ _ (by omega)]
                          by_cases hi2 : i < old.length
                          · rw [if_neg (by omega)]
                            rw [List.getElem?_append_left hi2] at hv
                            obtain ⟨_, _, hl3⟩ := loadS h hi hld
                            obtain ⟨v', x1, x2⟩ := hl3 cells e fr h1 i v hv
                            exact ⟨v', by rw [Nat.add_assoc]; exact x1, x2⟩
                          · rw [List.getElem?_append_right (by omega)] at hv
                            rw [if_pos (by omega)]
                            obtain ⟨v', x1, x2⟩ := hnew.get hv
                            exact ⟨v', by rw [← x1]; congr 1; omega, x2⟩
                        · intro id2 l2 o2 ha hb2 hg
                          have hid : id2 ≠ s.nx := fun x => by rw [x, hfrn] at ha; cases ha
                          rw [S.push_get, if_neg (by rw [hnx2]; exact hid)] at hg
                          by_cases e2 : id2 = a.block
                          · subst e2; exact .inr rfl
                          · rw [hg3 id2 e2] at hg
                            exact .inl (k6 id2 l l2 o2 hi e2 ha hb2 hg)
                      · refine (hF1.trans (Fm.prepush hS1 (by rw [hnx2]; exact hn) (by rw [hnx2, hlo2']; exact hlo) (.blk ⟨T.ofList (old ++ new) 0 .leaf, (old ++ new).length, e, some a.block, 0⟩))).trans ?_
                        refine Fm.bind hfrn hn (fun _ _ => rfl) (Nat.le_refl _) (.inr ⟨a.block, l, (.blk ⟨c, a.off + len * zz, e, none, 1⟩), by rw [S.push_lo, hlo2']; exact hlo2, hi, rfl, by rw [S.push_get, if_neg (by rw [hnx2]; exact Ne.symm hne)]; exact hg2, by simp [NotHole]⟩) rfl rfl rfl
  | _ => trivial

theorem strBytes_app {ι : Inj} (b : ByteArray) : VRelL ι (strBytes b.data.toList) (((b.extract 0 b.size).data.map fun x => Value.int .u8 x.toNat).toList) := by
  have h : ∀ l : List UInt8, VRelL ι (strBytes l) (l.map fun x => Value.int .u8 x.toNat) := by
    intro l
    induction l with
    | nil => exact .nil
    | cons a l ih => exact .cons (.int _ _) ih
  have e : (b.extract 0 b.size).data = b.data := by simp [ByteArray.extract_zero_size]
  rw [e]
  simpa using h b.data.toList

theorem srcOf_ok (h : SRel P ι s w) {size : Nat} {y y' : Value} {new : List Value} {n : Nat} (hs : srcOf s size y = some (new, n)) (hy : VRel ι y y') :
    ∃ new' : Array Value, VRelL ι new new'.toList ∧ new.length = n * size ∧ (Builtin.lenOf y').run P w = .ok n w ∧ ∀ w1, WSame w w1 → (Builtin.firstCells size n y').run P w1 = .ok new' w1 := by
  cases y with
  | slice a k c =>
    cases a with
    | none =>
      simp only [srcOf] at hs
      cases hb : Nat.beq k 0 with
      | false => simp [hb] at hs
      | true =>
        simp only [hb, cond_true, Option.some.injEq, Prod.mk.injEq] at hs
        obtain ⟨rfl, rfl⟩ := hs
        have := Nat.eq_of_beq_eq_true hb; subst this
        have := hy.nilslice_inv; subst this
        exact ⟨#[], .nil, by simp, by simp [Builtin.lenOf], fun _ _ => by simp [Builtin.firstCells]⟩
    | some a =>
      simp only [srcOf] at hs
      cases hl : s.load a.block a.off (k * size) with
      | none => simp [hl] at hs
      | some l0 =>
        simp only [hl, Option.some.injEq, Prod.mk.injEq] at hs
        obtain ⟨rfl, rfl⟩ := hs
        obtain ⟨l, off', c', hi, hnc, hcc, hex, hop, hoff, e⟩ := hy.slice_inv; subst e
        obtain ⟨old', o1, o2, o3⟩ := load_run (cap := c') h hi hl (by omega) hoff
        exact ⟨old', o1, by rw [← o2, ← Array.length_toList, o1.get_size], by simp [Builtin.lenOf], o3⟩
  | string b =>
    simp only [srcOf] at hs
    cases hb1 : Nat.beq size 1 with
    | false => simp [hb1] at hs
    | true =>
    simp only [hb1, cond_true, Option.some.injEq, Prod.mk.injEq] at hs
    obtain ⟨rfl, rfl⟩ := hs
    have := hy.string_inv; subst this
    have := Nat.eq_of_beq_eq_true hb1; subst this
    have hr := strBytes_app (ι := ι) b
    exact ⟨_, hr, by rw [hr.length]; simp, by simp [Builtin.lenOf], fun _ _ => by simp [Builtin.firstCells]⟩
  | _ => simp [srcOf] at hs

theorem ResPost.hd {r : Sem Value} {ρ : Operand → Value} {x : OR} (h : ResPost P hb ι s w r x) (he : ∀ v w', r.run P w = .ok v w' → (execOp ρ o).run P w = .ok (.value v) w') : HdPost P hb ι s w ρ o x := by
  cases x with
  | val v s' =>
    obtain ⟨ι', w', v', a, b, c, d⟩ := h
    exact ⟨ι', w', v', .inl (he _ _ a), b, c, d⟩
  | bad n => trivial
  | _ => exact False.elim h

theorem ok_append {c : Call} (ho : o.op = .call c) (hc : c.callee = .builtin .append) : RunOk P o (appendR P c) := by
  unfold appendR
  cases ht : c.argTypes[0]? with
  | none => exact RunOk.no _ _
  | some t =>
    cases ha : c.args.toList with
    | nil => exact RunOk.no _ _
    | cons x l =>
      cases l with
      | nil => exact RunOk.no _ _
      | cons y l =>
        cases l with
        | cons _ _ => exact RunOk.no _ _
        | nil =>
          simp only []
          cases hse : sliceElem P t with
          | none => exact RunOk.no _ _
          | some e =>
            simp only []
            cases hi : P.info? e with
            | none => exact RunOk.no _ _
            | some i =>
              simp only []
              cases hz : i.zero with
              | none => exact RunOk.no _ _
              | some z =>
                simp only []
                cases hk : plainV z && Nat.beq z.cells.size i.size && !Nat.beq i.size 0 && !Nat.beq i.bytes 0 && opdOk x && opdOk y && typeOk P c.argTypes[1]? with
                | false => exact RunOk.no _ _
                | true =>
                  simp only [cond_true]
                  simp only [Bool.and_eq_true, Nat.beq_eq, Bool.not_eq_true'] at hk
                  obtain ⟨⟨⟨⟨⟨⟨hpl, hzs⟩, hs0'⟩, _⟩, hx⟩, hy⟩, hty⟩ := hk
                  have hs0 : i.size ≠ 0 := fun e => by rw [e] at hs0'; cases hs0'
                  have hu := sliceElem_eq hse
                  have hsec := second_of hty
                  have hrun : ∀ ρ w v w', (Builtin.append_ c.argTypes o.type #[ρ x, ρ y]).run P w = .ok v w' → (execOp ρ o).run P w = .ok (.value v) w' := by
                    intro ρ w v w' h
                    rw [call_builtin ho hc, args_of ha]
                    simp [builtin, h]
                  cases hint : isIntT P c.argTypes[1]? with
                  | true =>
                    rw [hint] at hsec
                    intro hb ι s w g ρ hS hn hlo hr
                    have hrx : VRel ι (ev g x) (ρ x) := hr x (by simp [ho, Op.operands, Call.operands, hc, args_of ha]) hx
                    have hry : VRel ι (ev g y) (ρ y) := hr y (by simp [ho, Op.operands, Call.operands, hc, args_of ha]) hy
                    simp only []
                    cases he : ev g y with
                    | int kk k =>
                      simp only [he]
                      cases hcd : inR 0 1000000 k && Nat.ble (k.toNat * i.bytes) 1000000000 with
                      | false => trivial
                      | true =>
                        simp only [cond_true]
                        simp only [inR, Bool.and_eq_true, decide_eq_true_eq, Nat.ble_eq] at hcd
                        obtain ⟨⟨h0, h1⟩, h2⟩ := hcd
                        obtain ⟨n, rfl⟩ := Int.eq_ofNat_of_zero_le h0
                        have hnm : n ≤ 1000000 := by omega
                        simp only [Int.toNat_natCast] at h2 ⊢
                        rw [he] at hry
                        have e1 := hry.int_inv
                        have hzc : (Builtin.zeroCells z.cells n).toList = repL n z.cells.toList := zeroCells_eq n (by rw [hzs]; exact hs0)
                        refine ResPost.hd (doAppend_ok (new' := Builtin.zeroCells z.cells n) hS hn hlo (z := z) (y' := ρ y) ⟨?_, ?_⟩ ?_ ?_ hs0 hzs hrx) (hrun ρ w)
                        · intro base len cap w' q1 q2 q3
                          rw [e1]
                          exact run_append_in0 ht hu hi hz hsec hnm h2 q1 hs0 q2 q3
                        · intro base len cap old q1 q2 q3 q4
                          rw [e1]
                          exact run_append_out0 ht hu hi hz hsec hnm h2 hs0 q1 q2 q3 q4
                        · rw [hzc]; exact repL_rel n (plain_cells hpl ι)
                        · rw [repL_length, Array.length_toList, hzs]
                    | _ => simp only [he]; trivial
                  | false =>
                    rw [hint] at hsec
                    intro hb ι s w g ρ hS hn hlo hr
                    have hrx : VRel ι (ev g x) (ρ x) := hr x (by simp [ho, Op.operands, Call.operands, hc, args_of ha]) hx
                    have hry : VRel ι (ev g y) (ρ y) := hr y (by simp [ho, Op.operands, Call.operands, hc, args_of ha]) hy
                    simp only []
                    cases hsr : srcOf s i.size (ev g y) with
                    | none => trivial
                    | some nk =>
                      obtain ⟨new, n⟩ := nk
                      simp only []
                      obtain ⟨new', q1, q2, q3, q4⟩ := srcOf_ok hS hsr hry
                      refine ResPost.hd (doAppend_ok (new' := new') hS hn hlo (z := z) (y' := ρ y) ⟨?_, ?_⟩ q1 q2 hs0 hzs hrx) (hrun ρ w)
                      · intro base len cap w' r1 r2 r3
                        exact run_append_in ht hu hi hsec q3 (q4 w (WSame.refl w)) r1 r2 r3
                      · intro base len cap old r1 r2 r3 r4
                        exact run_append_out ht hu hi hz hsec q3 q4 r1 r2 r3 r4

end Go.AM
