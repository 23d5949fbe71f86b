/- Operations that look at no memory, 4: slicing, structs, lengths. -/
import Derived.Test.YteoodndfkdfnaaaGreatDoorAmPure3
namespace Go.AM
variable {P : Program} {o : Oper}

theorem bndV_run {ι : Inj} {g : T Value} {ρ : Operand → Value} {x : Option Operand} {dflt n : Nat} (h : bndV x g dflt = some n) (ho : optOk x = true)
    (hr : ∀ y, x = some y → opdOk y = true → VRel ι (ev g y) (ρ y)) :
    (x = none ∧ n = dflt) ∨ ∃ y k, x = some y ∧ ρ y = .int k (n : Int) := by
  unfold bndV at h
  cases x with
  | none => simp only [Option.some.injEq] at h; exact .inl ⟨rfl, h.symm⟩
  | some y =>
    simp only [] at h
    have hry := hr y rfl ho
    cases he : ev g y <;> simp only [he] at h <;> try (cases h; done)
    rename_i k i
    cases hd : decide (0 ≤ i) with
    | false => simp only [hd, cond_false] at h; cases h
    | true =>
      simp only [hd, cond_true, Option.some.injEq] at h
      have h0 : 0 ≤ i := by simpa using hd
      rw [he] at hry
      refine .inr ⟨y, k, rfl, ?_⟩
      rw [hry.int_inv]
      congr 1
      omega

theorem sliceBound_run {k : IntKind} {n y : Nat} (code : BoundsCode) (h : n ≤ y) (w : World) : (Instr.sliceBound (.int k (n : Int)) y code).run P w = .ok n w := by
  have : ((0 : Int) ≤ (n : Int) ∧ (n : Int) ≤ (y : Int)) := by omega
  simp [Instr.sliceBound, asIntOf, h]

theorem sliceBounds_run {b : Bool} {len cap l h : Nat} {ρ : Operand → Value} {lo hi : Option Operand}
    (hl : (lo = none ∧ l = 0) ∨ ∃ y k, lo = some y ∧ ρ y = .int k (l : Int)) (hh : (hi = none ∧ h = len) ∨ ∃ y k, hi = some y ∧ ρ y = .int k (h : Int))
    (h1 : l ≤ h) (h2 : h ≤ cap) (w : World) : (Instr.sliceBounds b len cap (lo.map ρ) (hi.map ρ) none).run P w = .ok (l, h, cap) w := by
  rcases hl with ⟨rfl, rfl⟩ | ⟨y, k, rfl, hy⟩ <;> rcases hh with ⟨rfl, rfl⟩ | ⟨y', k', rfl, hy'⟩ <;>
    simp [Instr.sliceBounds, *, sliceBound_run _ h1, sliceBound_run _ h2]

theorem ok_slice {t : TypeId} {x : Operand} {lo hi mx : Option Operand} (ho : o.op = .slice t x lo hi mx) : RunOk P o (cr P (.slice t x lo hi mx)) := by
  simp only [cr]
  cases hx : opdOk x && optOk lo && optOk hi with
  | false => exact RunOk.no _ _
  | true =>
    simp only [Bool.and_eq_true] at hx
    cases mx with
    | some m => exact RunOk.no _ _
    | none =>
      cases hu : P.underlying t with
      | none => exact RunOk.no _ _
      | some d =>
        cases d with
        | string =>
          intro ι g ρ v hv hr
          have hrx := hr x (by simp [ho, Op.operands]) hx.1.1
          have hrl : ∀ y, lo = some y → opdOk y = true → VRel ι (ev g y) (ρ y) := fun y hy => hr y (by simp [ho, Op.operands, hy])
          have hrh : ∀ y, hi = some y → opdOk y = true → VRel ι (ev g y) (ρ y) := fun y hy => hr y (by simp [ho, Op.operands, hy])
          simp only [] at hv
          cases he : ev g x with
          | string b =>
            simp only [he] at hv
            cases hl : bndV lo g 0 with
            | none => simp [hl] at hv
            | some l =>
              cases hh : bndV hi g b.size with
              | none => simp [hl, hh] at hv
              | some h =>
                simp only [hl, hh] at hv
                cases hc : Nat.ble l h && Nat.ble h b.size with
                | false => simp only [hc, cond_false] at hv; cases hv
                | true =>
                  simp only [hc, cond_true, Option.some.injEq] at hv; subst hv
                  simp only [Bool.and_eq_true, Nat.ble_eq] at hc
                  rw [he] at hrx
                  have e := hrx.string_inv
                  refine ⟨_, .string _, fun w => ?_⟩
                  have hb := sliceBounds_run (P := P) (b := false) (cap := b.size) (bndV_run hl hx.1.2 hrl) (bndV_run hh hx.2 hrh) hc.1 hc.2 w
                  have hex : b.extract l h = ⟨((b.data.toList.take h).drop l).toArray⟩ := by
                    apply ByteArray.ext
                    apply Array.ext'
                    simp [ByteArray.data_extract, List.extract_eq_take_drop, List.drop_take]
                  simp [execOp, ho, e, Instr.sliceAt, Instr.slice, run_underlying hu, hb, hex]
          | _ => simp [he] at hv
        | slice e =>
          simp only [cond_true]
          cases hs : szOf P e with
          | none => exact RunOk.no _ _
          | some z =>
            intro ι g ρ v hv hr
            have hrx := hr x (by simp [ho, Op.operands]) hx.1.1
            have hrl : ∀ y, lo = some y → opdOk y = true → VRel ι (ev g y) (ρ y) := fun y hy => hr y (by simp [ho, Op.operands, hy])
            have hrh : ∀ y, hi = some y → opdOk y = true → VRel ι (ev g y) (ρ y) := fun y hy => hr y (by simp [ho, Op.operands, hy])
            simp only [] at hv
            cases he : ev g x with
            | slice a len cap =>
              simp only [he] at hv
              cases hl : bndV lo g 0 with
              | none => simp [hl] at hv
              | some l =>
                cases hh : bndV hi g len with
                | none => simp [hl, hh] at hv
                | some h =>
                  simp only [hl, hh] at hv
                  cases hc : Nat.ble l h && Nat.ble h cap with
                  | false => simp only [hc, cond_false] at hv; cases hv
                  | true =>
                    simp only [hc, cond_true] at hv
                    simp only [Bool.and_eq_true, Nat.ble_eq] at hc
                    rw [he] at hrx
                    cases a with
                    | none =>
                      simp only [Option.some.injEq] at hv; subst hv
                      have e1 := hrx.nilslice_inv
                      refine ⟨_, .nilslice _ _, fun w => ?_⟩
                      have hb := sliceBounds_run (P := P) (b := true) (cap := cap) (bndV_run hl hx.1.2 hrl) (bndV_run hh hx.2 hrh) hc.1 hc.2 w
                      simp [execOp, ho, e1, Instr.sliceAt, Instr.slice, run_underlying hu, hb, run_sizeOf' hs]
                    | some a =>
                      simp only [] at hv
                      cases hz : spotOk a.spot z with
                      | false => rw [hz] at hv; cases hv
                      | true =>
                        rw [hz] at hv
                        simp only [cond_true, Option.some.injEq] at hv; subst hv
                        obtain ⟨L, off', c', hL, hnc, hcc, hex, hop, haddr, e1⟩ := hrx.slice_inv
                        have hb := sliceBounds_run (P := P) (b := true) (len := len) (cap := c') (bndV_run hl hx.1.2 hrl) (bndV_run hh hx.2 hrh) hc.1 (by omega)
                        by_cases hcl : c' = l
                        · refine ⟨.slice (some ⟨L.blk, off', none⟩) (h - l) (c' - l), .slice hL (by omega) (by omega) (fun hsp => by rw [hex hsp]) (fun z' _ hne => by omega) (fun hne => by omega), fun w => ?_⟩
                          subst hcl
                          simp [execOp, ho, e1, Instr.sliceAt, Instr.slice, run_underlying hu, hb w, run_sizeOf' hs]
                        · refine ⟨.slice (some ⟨L.blk, L.base + (a.off + l * z), none⟩) (h - l) (c' - l), .slice hL (by omega) (by omega) (fun hsp => by rw [hex hsp]) (fun z' hsp hne => ?_) (fun _ => by omega), fun w => ?_⟩
                          · have := hop z' hsp (by omega)
                            have hzz : z' = z := by rw [hsp] at hz; simpa [spotOk] using hz
                            subst hzz
                            have hm : l * z' + (c' - l) * z' = c' * z' := by rw [← Nat.add_mul]; congr 1; omega
                            omega
                          · have hoff := haddr (by omega)
                            have hcl' : ¬ c' = l := hcl
                            simp [execOp, ho, e1, Instr.sliceAt, Instr.slice, run_underlying hu, hb w, run_sizeOf' hs, hcl', Addr.add_none, hoff, Nat.add_assoc]
            | _ => simp [he] at hv
        | _ => exact RunOk.no _ _


theorem ok_typeAssert {x : Operand} {t a : TypeId} {ok : Bool} (ho : o.op = .typeAssert x t a ok) : RunOk P o (cr P (.typeAssert x t a ok)) := by
  simp only [cr]
  cases hx : opdOk x && ok with
  | false => exact RunOk.no _ _
  | true =>
    simp only [Bool.and_eq_true] at hx
    obtain ⟨hx, rfl⟩ := hx
    have main : ∀ d z, P.underlying a = some d → (∀ m, d ≠ .interface m) → zeroOf P a = some z → plainV z = true → PuOk P o (fun g => match ev g x with
          | .nilIface => some (.tuple #[z, .bool false])
          | .iface t v => bif Nat.beq t a then some (.tuple #[v, .bool true]) else some (.tuple #[z, .bool false])
          | _ => none) := by
      intro d z hu hd hz hp ι g ρ v hv hr
      have hrx := hr x (by simp [ho, Op.operands]) hx
      simp only [] at hv
      cases he : ev g x <;> simp only [he] at hv <;> try (cases hv; done)
      · rename_i t' u
        rw [he] at hrx
        obtain ⟨u', e, hru⟩ := hrx.iface_inv
        cases ht : Nat.beq t' a with
        | true =>
          have ht' := Nat.eq_of_beq_eq_true ht
          rw [ht] at hv; simp only [cond_true, Option.some.injEq] at hv; subst hv
          refine ⟨.tuple #[u', .bool true], .tuple (.cons hru (.cons (.bool _) .nil)), fun w => ?_⟩
          simp only [execOp, ho, e, Instr.typeAssert, Sem.run_bind, run_underlying hu, Result.andThen_ok]
          cases d <;> first | exact absurd rfl (hd _) | simp [ht']
        | false =>
          have ht' : ¬ t' = a := fun e => by rw [e] at ht; simp at ht
          rw [ht] at hv; simp only [cond_false, Option.some.injEq] at hv; subst hv
          refine ⟨.tuple #[z, .bool false], .tuple (.cons (.plainV hp) (.cons (.bool _) .nil)), fun w => ?_⟩
          simp only [execOp, ho, e, Instr.typeAssert, Sem.run_bind, run_underlying hu, Result.andThen_ok]
          cases d <;> first | exact absurd rfl (hd _) | simp [ht', run_zeroValue' hz]
      · rw [he] at hrx; have e := hrx.nilIface_inv
        simp only [Option.some.injEq] at hv; subst hv
        refine ⟨.tuple #[z, .bool false], .tuple (.cons (.plainV hp) (.cons (.bool _) .nil)), fun w => ?_⟩
        simp only [execOp, ho, e, Instr.typeAssert, Sem.run_bind, run_underlying hu, Result.andThen_ok]
        cases d <;> first | exact absurd rfl (hd _) | simp [run_zeroValue' hz]
    simp only [Bool.and_true, hx, cond_true]
    cases hu : P.underlying a with
    | none => exact RunOk.no _ _
    | some d =>
      cases hz : zeroOf P a with
      | none => cases d <;> exact RunOk.no _ _
      | some z =>
        cases hp : plainV z with
        | false => cases d <;> dsimp only <;> first
          | exact RunOk.no _ _
          | (rw [hp]; exact RunOk.no _ _)
        | true => cases d <;> dsimp only <;> first
          | exact RunOk.no _ _
          | (rw [hp]; exact main _ z hu (by intro m h; cases h) hz hp)

/-! ### structs and arrays that are built -/
theorem cellsOf_rel {ι : Inj} {v v' : Value} {cs : List Value} (h : cellsOf v = some cs) (r : VRel ι v v') : VRelL ι cs v'.cells.toList := by
  unfold cellsOf at h
  split at h
  · rename_i xs
    cases ha : allCells xs.toList with
    | false => rw [ha] at h; cases h
    | true =>
      rw [ha] at h; simp only [cond_true, Option.some.injEq] at h; subst h
      obtain ⟨xs', e, hl⟩ := r.agg_inv
      subst e; exact hl
  · cases h
  · cases h
  · simp only [Option.some.injEq] at h; subst h
    rename_i h1 h2 h3
    have : v'.cells = #[v'] := by
      cases r <;> first | rfl | exact absurd rfl (h1 _) | exact absurd rfl (h2 _) | exact absurd rfl (h3 _)
    rw [this]; exact .cons r .nil

theorem spliceL_get : ∀ (cs : List Value) (off : Nat) (vs : List Value) (i : Nat), off + vs.length ≤ cs.length →
    (spliceL cs off vs)[i]? = if off ≤ i ∧ i < off + vs.length then vs[i - off]? else cs[i]?
  | cs, 0, vs, i, h => by
    simp only [spliceL, Nat.zero_le, true_and, Nat.zero_add, Nat.sub_zero]
    by_cases hi : i < vs.length
    · rw [if_pos hi, List.getElem?_append_left hi]
    · rw [if_neg hi, List.getElem?_append_right (by omega), List.getElem?_drop]
      congr 1; omega
  | [], n + 1, vs, i, h => by simp at h
  | c :: cs, n + 1, vs, i, h => by
    simp only [spliceL]
    cases i with
    | zero => simp
    | succ i =>
      simp only [List.getElem?_cons_succ]
      rw [spliceL_get cs n vs i (by simp at h; omega)]
      by_cases hc : n ≤ i ∧ i < n + vs.length
      · rw [if_pos hc, if_pos (by omega)]; congr 1; omega
      · rw [if_neg hc, if_neg (by omega)]
theorem spliceL_length : ∀ (cs : List Value) (off : Nat) (vs : List Value), off + vs.length ≤ cs.length → (spliceL cs off vs).length = cs.length
  | cs, 0, vs, h => by simp [spliceL]; omega
  | [], n + 1, vs, h => by simp at h
  | c :: cs, n + 1, vs, h => by simp [spliceL, spliceL_length cs n vs (by simp at h; omega)]

theorem foldl_set_size (off : Nat) : ∀ (l : List (Value × Nat)) (a : Array Value), (l.foldl (fun cs (p : Value × Nat) => cs.setIfInBounds (off + p.2) p.1) a).size = a.size
  | [], _ => rfl
  | (v, j) :: l, a => by simp only [List.foldl_cons]; rw [foldl_set_size off l]; simp
theorem foldl_set_get (off : Nat) : ∀ (vs : List Value) (k : Nat) (a : Array Value) (i : Nat), off + k + vs.length ≤ a.size →
    ((vs.zipIdx k).foldl (fun cs (p : Value × Nat) => cs.setIfInBounds (off + p.2) p.1) a)[i]? = if off + k ≤ i ∧ i < off + k + vs.length then vs[i - (off + k)]? else a[i]?
  | [], k, a, i, h => by simp; intro h1 h2; omega
  | v :: vs, k, a, i, h => by
    simp only [List.zipIdx_cons, List.foldl_cons]
    rw [foldl_set_get off vs (k + 1) _ i (by simp at h ⊢; omega)]
    by_cases h1 : off + (k + 1) ≤ i ∧ i < off + (k + 1) + vs.length
    · rw [if_pos h1, if_pos (by simp; omega)]
      obtain ⟨j, rfl⟩ : ∃ j, i = off + (k + 1) + j := ⟨i - (off + (k + 1)), by omega⟩
      rw [show off + (k + 1) + j - (off + (k + 1)) = j by omega, show off + (k + 1) + j - (off + k) = j + 1 by omega]; rfl
    · rw [if_neg h1]
      by_cases h2 : i = off + k
      · subst h2
        rw [if_pos (by simp)]
        simp at h
        rw [Array.getElem?_setIfInBounds_self_of_lt (by omega)]
        simp
      · rw [if_neg (by simp; omega)]
        rw [Array.getElem?_setIfInBounds_ne (by omega)]

theorem zipIdx_toList (a : Array Value) : a.zipIdx.toList = a.toList.zipIdx := by simp

/-- the model's filling, off the lists -/
theorem fill_rel {ι : Inj} {place : Nat → Option (Nat × Nat)} : ∀ {ps : List (Nat × Nat × Value)} {cs cs1 : List Value} {cs' : Array Value} {ps' : List (Nat × Value)},
    fillL cs ps = some cs1 → VRelL ι cs cs'.toList → ps.length = ps'.length →
    (∀ (k : Nat) off n v, ps[k]? = some (off, n, v) → ∃ i v', ps'[k]? = some (i, v') ∧ place i = some (off, n) ∧ VRel ι v v') →
    ∃ cs1', Instr.fill place cs' ps' = some cs1' ∧ VRelL ι cs1 cs1'.toList
  | [], cs, cs1, cs', ps', h, hr, hl, _ => by
    cases ps' with
    | nil => simp only [fillL, Option.some.injEq] at h; subst h; exact ⟨cs', rfl, hr⟩
    | cons => simp at hl
  | (off, n, v) :: ps, cs, cs1, cs', ps', h, hr, hl, hp => by
    cases ps' with
    | nil => simp at hl
    | cons p ps' =>
      obtain ⟨i, v', he, hpl, hv⟩ := hp 0 off n v rfl
      simp only [List.getElem?_cons_zero, Option.some.injEq] at he; subst he
      simp only [fillL] at h
      cases hc : cellsOf v with
      | none => simp [hc] at h
      | some vs =>
        simp only [hc] at h
        cases hb : Nat.beq vs.length n && Nat.ble (off + vs.length) cs.length with
        | false => rw [hb] at h; cases h
        | true =>
          rw [hb] at h; simp only [cond_true] at h
          simp only [Bool.and_eq_true, Nat.beq_eq, Nat.ble_eq] at hb
          have hvr := cellsOf_rel hc hv
          have hsz : v'.cells.size = n := by have := hvr.length; simp at this; omega
          have hcs : cs.length = cs'.size := by simpa using hr.length
          have hvl : vs.length = v'.cells.size := by simpa using hvr.length
          simp only [Instr.fill, hpl]
          rw [if_neg (by simp only [Bool.or_eq_true, decide_eq_true_eq, not_or]; exact ⟨by simp [hsz], by omega⟩)]
          refine fill_rel h ?_ (by simpa using hl) fun k off' n' u hk => by simpa using hp (k + 1) off' n' u (by simpa using hk)
          rw [← Array.foldl_toList, zipIdx_toList]
          refine VRelL.of_get (by
            rw [spliceL_length _ _ _ hb.2]
            have := foldl_set_size off (v'.cells.toList.zipIdx) cs'
            simp only [Array.length_toList]; rw [this]; exact hcs) ?_
          intro j x x' hx hx'
          rw [spliceL_get _ _ _ _ hb.2] at hx
          rw [Array.getElem?_toList, foldl_set_get off v'.cells.toList 0 cs' j (by simp; omega)] at hx'
          simp only [Nat.add_zero, Array.length_toList] at hx'
          by_cases hj : off ≤ j ∧ j < off + vs.length
          · rw [if_pos hj] at hx
            rw [if_pos (by omega)] at hx'
            obtain ⟨y, h1, h2⟩ := hvr.get hx
            rw [h1] at hx'; cases hx'; exact h2
          · rw [if_neg hj] at hx
            rw [if_neg (by omega)] at hx'
            obtain ⟨y, h1, h2⟩ := hr.get hx
            rw [Array.getElem?_toList] at h1
            rw [h1] at hx'; cases hx'; exact h2

theorem placesS_get {fs : Array Field} : ∀ {l : List (Nat × Operand)} {r : List (Nat × Nat × Operand)}, placesS P fs l = some r →
    r.length = l.length ∧ ∀ (k : Nat) off n x, r[k]? = some (off, n, x) → opdOk x = true ∧ ∃ i f, l[k]? = some (i, x) ∧ fs[i]? = some f ∧ szOf P f.type = some n ∧ f.offset = off
  | [], r, h => by simp only [placesS, Option.some.injEq] at h; subst h; simp
  | (i, x) :: l, r, h => by
    simp only [placesS] at h
    cases hf : fs[i]? with
    | none => simp [hf] at h
    | some f =>
      simp only [hf] at h
      cases hs : szOf P f.type with
      | none => simp [hs] at h
      | some n =>
        cases hp : placesS P fs l with
        | none => simp [hs, hp] at h
        | some r' =>
          simp only [hs, hp] at h
          cases ho : opdOk x with
          | false => rw [ho] at h; cases h
          | true =>
            rw [ho] at h; simp only [cond_true, Option.some.injEq] at h; subst h
            obtain ⟨h1, h2⟩ := placesS_get hp
            refine ⟨by simp [h1], fun k off m y hk => ?_⟩
            cases k with
            | zero =>
              simp only [List.getElem?_cons_zero, Option.some.injEq, Prod.mk.injEq] at hk
              obtain ⟨rfl, rfl, rfl⟩ := hk
              exact ⟨ho, i, f, rfl, hf, hs, rfl⟩
            | succ k => simpa using h2 k off m y (by simpa using hk)
theorem placesA_get {z : Nat} : ∀ {l : List (Nat × Operand)} {r : List (Nat × Nat × Operand)}, placesA z l = some r →
    r.length = l.length ∧ ∀ (k : Nat) off n x, r[k]? = some (off, n, x) → opdOk x = true ∧ n = z ∧ ∃ i, l[k]? = some (i, x) ∧ off = i * z
  | [], r, h => by simp only [placesA, Option.some.injEq] at h; subst h; simp
  | (i, x) :: l, r, h => by
    simp only [placesA] at h
    cases hp : placesA z l with
    | none => simp [hp] at h
    | some r' =>
      simp only [hp] at h
      cases ho : opdOk x with
      | false => rw [ho] at h; cases h
      | true =>
        rw [ho] at h; simp only [cond_true, Option.some.injEq] at h; subst h
        obtain ⟨h1, h2⟩ := placesA_get hp
        refine ⟨by simp [h1], fun k off m y hk => ?_⟩
        cases k with
        | zero =>
          simp only [List.getElem?_cons_zero, Option.some.injEq, Prod.mk.injEq] at hk
          obtain ⟨rfl, rfl, rfl⟩ := hk
          exact ⟨ho, rfl, i, rfl, rfl⟩
        | succ k => simpa using h2 k off m y (by simpa using hk)
theorem partsL_get {g : T Value} : ∀ (l : List (Nat × Nat × Operand)) (k : Nat), (partsL g l)[k]? = (l[k]?).map fun p => (p.1, p.2.1, ev g p.2.2)
  | [], k => by simp [partsL]
  | (a, b, x) :: l, 0 => by simp [partsL]
  | (a, b, x) :: l, k + 1 => by simp [partsL, partsL_get l k]
theorem partsL_length {g : T Value} : ∀ (l : List (Nat × Nat × Operand)), (partsL g l).length = l.length
  | [] => rfl
  | (a, b, x) :: l => by simp [partsL, partsL_length l]

theorem fieldsOk_run : ∀ {l : List Field}, fieldsOk P l = true → ∀ (w : World), (l.mapM fun f => do pure (f.offset, ← sizeOf f.type) : Sem (List (Nat × Nat))).run P w = .ok (l.map fun f => (f.offset, (szOf P f.type).getD 0)) w
  | [], _, w => rfl
  | f :: l, h, w => by
    simp only [fieldsOk, Bool.and_eq_true] at h
    obtain ⟨n, hn⟩ := Option.isSome_iff_exists.1 h.1
    simp only [List.mapM_cons, Sem.run_bind, run_sizeOf' hn, Result.andThen_ok, Sem.run_pure, fieldsOk_run h.2 w, List.map_cons, hn, Option.getD_some]

theorem ok_build {t : TypeId} {parts : Array (Nat × Operand)} (ho : o.op = .build t parts) : RunOk P o (cr P (.build t parts)) := by
  simp only [cr]
  cases hz : zeroOf P t with
  | none => exact RunOk.no _ _
  | some z =>
    simp only []
    cases hp : plainV z with
    | false => exact RunOk.no _ _
    | true =>
      simp only [cond_true]
      have hzr : ∀ ι, VRelL ι z.cells.toList z.cells.toList := by
        intro ι
        cases z with
        | agg cs => show VRelL ι cs.toList cs.toList; exact .plainL (by simpa [plainV] using hp)
        | _ => exact .cons (.plainV hp) .nil
      have hops : o.op.operands.toList = parts.toList.map (·.2) := by rw [ho]; simp [Op.operands]
      cases hu : P.underlying t with
      | none => exact RunOk.no _ _
      | some d =>
        cases d with
        | struct fs =>
          simp only []
          cases hf : fieldsOk P fs.toList with
          | false => exact RunOk.no _ _
          | true =>
            simp only [cond_true]
            cases hpl : placesS P fs parts.toList with
            | none => exact RunOk.no _ _
            | some ps =>
              intro ι g ρ v hv hr
              simp only [] at hv
              cases hfl : fillL z.cells.toList (partsL g ps) with
              | none => simp [hfl] at hv
              | some cs =>
                simp only [hfl, Option.some.injEq] at hv; subst hv
                obtain ⟨h1, h2⟩ := placesS_get hpl
                obtain ⟨cs', e1, e2⟩ := fill_rel (place := fun i => (fs.toList.map fun f => (f.offset, (szOf P f.type).getD 0)).toArray[i]?)
                  (ps' := (parts.map fun (i, x) => (i, ρ x)).toList) hfl (hzr ι) (by simp [partsL_length, h1]) (by
                    intro k off n v hk
                    rw [partsL_get] at hk
                    cases hpk : ps[k]? with
                    | none => simp [hpk] at hk
                    | some q =>
                      obtain ⟨a, b, x⟩ := q
                      simp only [hpk, Option.map_some, Option.some.injEq, Prod.mk.injEq] at hk
                      obtain ⟨rfl, rfl, rfl⟩ := hk
                      obtain ⟨hox, i, f, hl, hfi, hsz, hoff⟩ := h2 k _ _ _ hpk
                      refine ⟨i, ρ x, by simp [hl], ?_, hr x ?_ hox⟩
                      · simp [hfi, hsz, hoff]
                      · rw [hops]
                        exact List.mem_map.2 ⟨(i, x), List.mem_of_getElem? hl, rfl⟩)
                refine ⟨.agg cs', .agg (by simpa using e2), fun w => ?_⟩
                have hm : (fs.mapM (fun f => do pure (f.offset, ← sizeOf f.type)) : Sem (Array (Nat × Nat))).run P w = .ok (fs.toList.map fun f => (f.offset, (szOf P f.type).getD 0)).toArray w := by
                  rw [Array.mapM_eq_mapM_toList, Sem.run_map, fieldsOk_run hf w]
                  rfl
                simp only [execOp, ho, Instr.build, Sem.run_bind, run_zeroValue' hz, Result.andThen_ok, run_underlying hu, hm]
                rw [e1]; rfl
        | array len e =>
          simp only []
          cases hs : szOf P e with
          | none => exact RunOk.no _ _
          | some n =>
            simp only []
            cases hpl : placesA n parts.toList with
            | none => exact RunOk.no _ _
            | some ps =>
              intro ι g ρ v hv hr
              simp only [] at hv
              cases hfl : fillL z.cells.toList (partsL g ps) with
              | none => simp [hfl] at hv
              | some cs =>
                simp only [hfl, Option.some.injEq] at hv; subst hv
                obtain ⟨h1, h2⟩ := placesA_get hpl
                obtain ⟨cs', e1, e2⟩ := fill_rel (place := fun i => some (i * n, n))
                  (ps' := (parts.map fun (i, x) => (i, ρ x)).toList) hfl (hzr ι) (by simp [partsL_length, h1]) (by
                    intro k off m v hk
                    rw [partsL_get] at hk
                    cases hpk : ps[k]? with
                    | none => simp [hpk] at hk
                    | some q =>
                      obtain ⟨a, b, x⟩ := q
                      simp only [hpk, Option.map_some, Option.some.injEq, Prod.mk.injEq] at hk
                      obtain ⟨rfl, rfl, rfl⟩ := hk
                      obtain ⟨hox, rfl, i, hl, rfl⟩ := h2 k _ _ _ hpk
                      refine ⟨i, ρ x, by simp [hl], rfl, hr x ?_ hox⟩
                      rw [hops]
                      exact List.mem_map.2 ⟨(i, x), List.mem_of_getElem? hl, rfl⟩)
                refine ⟨.agg cs', .agg (by simpa using e2), fun w => ?_⟩
                simp only [execOp, ho, Instr.build, Sem.run_bind, run_zeroValue' hz, Result.andThen_ok, run_underlying hu, run_sizeOf' hs]
                rw [e1]; rfl
        | _ => exact RunOk.no _ _

end Go.AM
