/- append. -/
import Derived.Test.YteoodndfkdfnaaaGreatDoorAmHard
namespace Go.AM
variable {P : Program} {o : Oper} {ι : Inj} {s : S} {w w' : World}

/-- how the model reads the second operand: a number of zeros, or not -/
inductive Second (P : Program) (argT : Array TypeId) : Bool → Prop
  | none : argT[1]? = Option.none → Second P argT false
  | no {t : TypeId} {d : TypeDesc} : argT[1]? = some t → P.underlying t = some d → (∀ k, d ≠ .int k) → Second P argT false
  | yes {t : TypeId} {k : IntKind} : argT[1]? = some t → P.underlying t = some (.int k) → Second P argT true

theorem second_of {argT : Array TypeId} (h : typeOk P argT[1]? = true) : Second P argT (isIntT P argT[1]?) := by
  cases h1 : argT[1]? with
  | none => simp only [isIntT]; exact .none h1
  | some t =>
    rw [h1] at h
    simp only [typeOk] at h
    obtain ⟨d, hd⟩ := Option.isSome_iff_exists.1 h
    simp only [isIntT, hd]
    cases d <;> first | exact .yes h1 hd | exact .no h1 hd (by intro k h; cases h)

/-- the model's append, where there is room: what is brought is stored -/
theorem run_append_in {argT : Array TypeId} {ty t e : TypeId} {i : TypeInfo} (ht : argT[0]? = some t) (hu : P.underlying t = some (.slice e)) (hi : P.info? e = some i) (hsec : Second P argT false)
    {base : Option Addr} {len cap n : Nat} {y : Value} {new : Array Value} (hl : (Builtin.lenOf y).run P w = .ok n w) (hf : (Builtin.firstCells i.size n y).run P w = .ok new w) (hc : len + n ≤ cap)
    (hst : ∀ a, base = some a → (storeCells (a.add (len * i.size)) new.toList).run P w = .ok () w') (hno : base = none → w' = w) :
    (Builtin.append_ argT ty #[.slice base len cap, y]).run P w = .ok (.slice base (len + n) cap) w' := by
  have hs : szOf P e = some i.size := by simp [szOf, hi]
  cases hsec with
  | none h1 =>
    cases base with
    | none => have := hno rfl; subst this; simp [Builtin.append_, ht, run_underlying hu, run_sizeOf' hs, h1, hl, hf, hc]
    | some a => simp [Builtin.append_, ht, run_underlying hu, run_sizeOf' hs, h1, hl, hf, hc, hst a rfl]
  | no h1 h2 h3 =>
    rename_i xt d
    have hm : (match d with | .int _ => true | _ => false) = false := by cases d <;> first | rfl | exact absurd rfl (h3 _)
    cases base with
    | none => have := hno rfl; subst this; simp [Builtin.append_, ht, run_underlying hu, run_sizeOf' hs, h1, run_underlying h2, hm, hl, hf, hc]
    | some a => simp [Builtin.append_, ht, run_underlying hu, run_sizeOf' hs, h1, run_underlying h2, hm, hl, hf, hc, hst a rfl]


theorem growBy_le (m : Nat) : ∀ (r c : Nat), Builtin.growBy m r c ≤ (c + 768) * 2 ^ r
  | 0, c => by simp [Builtin.growBy]
  | r + 1, c => by
    simp only [Builtin.growBy]
    split
    · have h1 : 0 < 2 ^ (r + 1) := Nat.two_pow_pos _
      have := Nat.le_mul_of_pos_right (c + 768) h1
      omega
    · have := growBy_le m r (c + (c + 768) / 4)
      have h2 : (c + (c + 768) / 4 + 768) ≤ (c + 768) * 2 := by omega
      calc Builtin.growBy m r (c + (c + 768) / 4) ≤ (c + (c + 768) / 4 + 768) * 2 ^ r := this
        _ ≤ ((c + 768) * 2) * 2 ^ r := Nat.mul_le_mul_right _ h2
        _ = (c + 768) * 2 ^ (r + 1) := by rw [Nat.pow_succ, Nat.mul_assoc, Nat.mul_comm 2]
theorem nextslicecap_le {need cap : Nat} (h : cap < need) : Builtin.nextslicecap need cap ≤ (need + 768) * 16 := by
  unfold Builtin.nextslicecap
  split
  · omega
  · split
    · omega
    · have := growBy_le need 4 cap
      exact Nat.le_trans this (Nat.mul_le_mul_right 16 (by omega))
theorem next_bytes {need cap b : Nat} (h : cap < need) (hb : need * b ≤ 1000000000) (hn : need ≤ 1000000000) : ¬ (Builtin.nextslicecap need cap * b > 2 ^ 48) := by
  have h1 := nextslicecap_le h
  have h2 := Nat.mul_le_mul_right b h1
  have h3 : (need + 768) * 16 * b = 16 * (need * b) + 12288 * b := by
    rw [Nat.mul_assoc, Nat.mul_comm 16 b, ← Nat.mul_assoc, Nat.add_mul, Nat.add_mul]
    omega
  have h4 : b ≤ need * b := Nat.le_mul_of_pos_left b (by omega)
  omega

theorem zeroCells_eq {z : Array Value} (n : Nat) (hz : z.size ≠ 0) : (Builtin.zeroCells z n).toList = repL n z.toList := by
  unfold Builtin.zeroCells
  exact zeros_eq hz rfl
theorem zeroCells_size (z : Array Value) (n : Nat) : (Builtin.zeroCells z n).size = n * z.size := by simp [Builtin.zeroCells]

/-- the model's append, where there is no room: a new row -/
theorem run_append_out {argT : Array TypeId} {ty t e : TypeId} {i : TypeInfo} {z : Value} (ht : argT[0]? = some t) (hu : P.underlying t = some (.slice e)) (hi : P.info? e = some i) (hz : i.zero = some z) (hsec : Second P argT false)
    {base : Option Addr} {len cap n : Nat} {y : Value} {old new : Array Value} (hl : (Builtin.lenOf y).run P w = .ok n w) (hf : ∀ w1, WSame w w1 → (Builtin.firstCells i.size n y).run P w1 = .ok new w1)
    (ho : ∀ w1, WSame w w1 → (Builtin.firstCells i.size len (.slice base len cap)).run P w1 = .ok old w1) (hc : cap < len + n) (hb : (len + n) * i.bytes ≤ 1000000000) (hn : len + n ≤ 1000000000) :
    ∃ nc d, len + n ≤ nc ∧ (Builtin.append_ argT ty #[.slice base len cap, y]).run P w =
      .ok (.slice (some ⟨w.heap.size, 0, none⟩) (len + n) nc) { w with heap := w.heap.push (.cells (old ++ new ++ Builtin.zeroCells z.cells (nc - (len + n))) e), drawn := d } := by
  have hs : szOf P e = some i.size := by simp [szOf, hi]
  have hzo : zeroOf P e = some z := by simp [zeroOf, hi, hz]
  have hnot : ¬ (len + n ≤ cap) := by omega
  have hbig : ¬ ((len + n : Nat) : Int) > 9223372036854775807 := by omega
  have hbig' : ¬ (9223372036854775807 < (len : Int) + (n : Int)) := by omega
  have hnx := next_bytes hc hb hn
  have hnx' : ¬ (281474976710656 < Builtin.nextslicecap (len + n) cap * i.bytes) := by simpa using hnx
  refine ⟨(Question.appendCap (len + n) cap e).cut (w.tape w.drawn (.appendCap (len + n) cap e)), w.drawn + 1, by simp [Question.cut], ?_⟩
  have hf' := hf w.drew ⟨rfl, rfl, rfl, rfl⟩
  have ho' := ho w.drew ⟨rfl, rfl, rfl, rfl⟩
  cases hsec with
  | none h1 =>
    simp [Builtin.append_, ht, run_underlying hu, run_sizeOf' hs, h1, hl, hnot, run_typeInfo' hi, hbig', hnx', Question.forced, hf', ho', run_zeroValue' hzo, newRow, Array.append_assoc]
    rfl
  | no h1 h2 h3 =>
    rename_i xt d
    have hm : (match d with | .int _ => true | _ => false) = false := by cases d <;> first | rfl | exact absurd rfl (h3 _)
    simp [Builtin.append_, ht, run_underlying hu, run_sizeOf' hs, h1, run_underlying h2, hm, hl, hnot, run_typeInfo' hi, hbig', hnx', Question.forced, hf', ho', run_zeroValue' hzo, newRow, Array.append_assoc]
    rfl

/-- the same of a number of zeros -/
theorem run_append_in0 {argT : Array TypeId} {ty t e : TypeId} {i : TypeInfo} {z : Value} (ht : argT[0]? = some t) (hu : P.underlying t = some (.slice e)) (hi : P.info? e = some i) (hz : i.zero = some z) (hsec : Second P argT true)
    {base : Option Addr} {len cap n : Nat} {k : IntKind} (hn : n ≤ 1000000) (hnb : n * i.bytes ≤ 1000000000) (hc : len + n ≤ cap) (hsz : i.size ≠ 0)
    (hst : ∀ a, base = some a → (storeCells (a.add (len * i.size)) (Builtin.zeroCells z.cells n).toList).run P w = .ok () w') (hno : base = none → w' = w) :
    (Builtin.append_ argT ty #[.slice base len cap, .int k (n : Int)]).run P w = .ok (.slice base (len + n) cap) w' := by
  have hs : szOf P e = some i.size := by simp [szOf, hi]
  have hzo : zeroOf P e = some z := by simp [zeroOf, hi, hz]
  have hw : IntKind.i64.wrap (n : Int) = n := wrap64_id (by omega) (by omega)
  have h0 : ¬ ((n : Int) < 0) := by omega
  have hnb2 : (n : Int) * (i.bytes : Int) = ((n * i.bytes : Nat) : Int) := by simp
  have hbig : ¬ ((n : Int) * (i.bytes : Int) > 2 ^ 48) := by rw [hnb2]; omega
  have hbig' : ¬ (281474976710656 < (n : Int) * (i.bytes : Int)) := by rw [hnb2]; omega
  cases hsec with
  | yes h1 h2 =>
    by_cases hn0 : n = 0
    · subst hn0
      have hw0 : IntKind.i64.wrap 0 = 0 := by decide
      have hzc : (Builtin.zeroCells z.cells 0) = #[] := by simp [Builtin.zeroCells]
      rw [hzc] at hst
      cases base with
      | none =>
        have := hno rfl; subst this
        simp [Builtin.append_, ht, run_underlying hu, run_sizeOf' hs, h1, run_underlying h2, asInt, asIntOf, hw, run_typeInfo' hi, hc, hw0]
        omega
      | some a =>
        have := hst a rfl
        simp at this
        simp [Builtin.append_, ht, run_underlying hu, run_sizeOf' hs, h1, run_underlying h2, asInt, asIntOf, hw, run_typeInfo' hi, hc, this, hw0]
        omega
    · have hns : ¬ (n * i.size = 0) := by rw [Nat.mul_eq_zero]; omega
      cases base with
      | none => have := hno rfl; subst this; simp [Builtin.append_, ht, run_underlying hu, run_sizeOf' hs, h1, run_underlying h2, asInt, asIntOf, hw, run_typeInfo' hi, hc, h0, hbig', hns, run_zeroValue' hzo]
      | some a => simp [Builtin.append_, ht, run_underlying hu, run_sizeOf' hs, h1, run_underlying h2, asInt, asIntOf, hw, run_typeInfo' hi, hc, h0, hbig', hns, run_zeroValue' hzo, hst a rfl]

theorem run_append_out0 {argT : Array TypeId} {ty t e : TypeId} {i : TypeInfo} {z : Value} (ht : argT[0]? = some t) (hu : P.underlying t = some (.slice e)) (hi : P.info? e = some i) (hz : i.zero = some z) (hsec : Second P argT true)
    {base : Option Addr} {len cap n : Nat} {k : IntKind} {old : Array Value} (hn1 : n ≤ 1000000) (hnb : n * i.bytes ≤ 1000000000) (hsz : i.size ≠ 0)
    (ho : ∀ w1, WSame w w1 → (Builtin.firstCells i.size len (.slice base len cap)).run P w1 = .ok old w1) (hc : cap < len + n) (hb : (len + n) * i.bytes ≤ 1000000000) (hn : len + n ≤ 1000000000) :
    ∃ nc d, len + n ≤ nc ∧ (Builtin.append_ argT ty #[.slice base len cap, .int k (n : Int)]).run P w =
      .ok (.slice (some ⟨w.heap.size, 0, none⟩) (len + n) nc) { w with heap := w.heap.push (.cells (old ++ Builtin.zeroCells z.cells n ++ Builtin.zeroCells z.cells (nc - (len + n))) e), drawn := d } := by
  have hs : szOf P e = some i.size := by simp [szOf, hi]
  have hzo : zeroOf P e = some z := by simp [zeroOf, hi, hz]
  have hw : IntKind.i64.wrap (n : Int) = n := wrap64_id (by omega) (by omega)
  have h0 : ¬ ((n : Int) < 0) := by omega
  have hnb2 : (n : Int) * (i.bytes : Int) = ((n * i.bytes : Nat) : Int) := by simp
  have hbig2 : ¬ (281474976710656 < (n : Int) * (i.bytes : Int)) := by rw [hnb2]; omega
  have hnot : ¬ (len + n ≤ cap) := by omega
  have hbig' : ¬ (9223372036854775807 < (len : Int) + (n : Int)) := by omega
  have hnx := next_bytes hc hb hn
  have hnx' : ¬ (281474976710656 < Builtin.nextslicecap (len + n) cap * i.bytes) := by simpa using hnx
  refine ⟨(Question.appendCap (len + n) cap e).cut (w.tape w.drawn (.appendCap (len + n) cap e)), w.drawn + 1, by simp [Question.cut], ?_⟩
  have ho' := ho w.drew ⟨rfl, rfl, rfl, rfl⟩
  cases hsec with
  | yes h1 h2 =>
    by_cases hn0 : n = 0
    · subst hn0
      have hw0 : IntKind.i64.wrap 0 = 0 := by decide
      have hzc : (Builtin.zeroCells z.cells 0) = #[] := by simp [Builtin.zeroCells]
      have hcl : ¬ len ≤ cap := by omega
      have hbl : ¬ (9223372036854775807 < (len : Int)) := by omega
      have hnl : ¬ (281474976710656 < Builtin.nextslicecap len cap * i.bytes) := by simpa using hnx'
      simp [Builtin.append_, ht, run_underlying hu, run_sizeOf' hs, h1, run_underlying h2, asInt, asIntOf, hw, run_typeInfo' hi, hw0, hcl, hbl, hnl, Question.forced, ho', run_zeroValue' hzo, newRow, hzc]
      rfl
    · have hns : ¬ (n * i.size = 0) := by rw [Nat.mul_eq_zero]; omega
      simp [Builtin.append_, ht, run_underlying hu, run_sizeOf' hs, h1, run_underlying h2, asInt, asIntOf, hw, run_typeInfo' hi, hnot, h0, hbig2, hbig', hnx', hns, Question.forced, ho', run_zeroValue' hzo, newRow, Array.append_assoc]
      rfl

end Go.AM
