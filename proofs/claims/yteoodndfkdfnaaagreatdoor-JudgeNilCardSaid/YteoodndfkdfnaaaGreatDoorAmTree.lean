/- Finite maps keyed by numbers: what a look-up says behind a store. -/
import Derived.Test.YteoodndfkdfnaaaGreatDoorAmDef
namespace Go.AM
variable {α : Type}

theorem half_lt {n : Nat} (h : n ≠ 0) : n / 2 < n := Nat.div_lt_self (Nat.pos_of_ne_zero h) (by omega)

theorem T.get_setF : ∀ (f : Nat) (t : T α) (n m : Nat) (v : Option α), n < f → (T.setF f t n v).get m = if m = n then v else t.get m := by
  intro f
  induction f with
  | zero => intro t n m v h; omega
  | succ f ih =>
    intro t n m v h
    cases t with
    | leaf =>
      simp only [T.setF]
      by_cases h0 : n = 0
      · subst h0
        simp only [Nat.beq_refl, cond_true, T.get]
        by_cases hm : m = 0
        · subst hm; simp
        · have : Nat.beq m 0 = false := by cases m with | zero => exact absurd rfl hm | succ k => rfl
          simp only [this, cond_false, if_neg hm]
          cases Nat.beq (m.mod 2) 1 <;> rfl
      · have hb : Nat.beq n 0 = false := by cases n with | zero => exact absurd rfl h0 | succ k => rfl
        simp only [hb, cond_false]
        by_cases ho : n % 2 = 1
        · have hb1 : Nat.beq (n.mod 2) 1 = true := by rw [show n.mod 2 = 1 from ho]; rfl
          simp only [hb1, cond_true, T.get]
          by_cases hm : m = 0
          · subst hm; simp [Ne.symm h0]
          · have hmb : Nat.beq m 0 = false := by cases m with | zero => exact absurd rfl hm | succ k => rfl
            simp only [hmb, cond_false]
            by_cases hmo : m % 2 = 1
            · have : Nat.beq (m.mod 2) 1 = true := by rw [show m.mod 2 = 1 from hmo]; rfl
              simp only [this, cond_true]
              rw [ih _ _ _ _ (by have : n.div 2 = n / 2 := rfl; omega)]
              have e1 : n.div 2 = n / 2 := rfl
              have e2 : m.div 2 = m / 2 := rfl
              rw [e1, e2]
              by_cases hmn : m = n
              · subst hmn; simp
              · have : m / 2 ≠ n / 2 := by omega
                simp [this, hmn, T.get]
            · have : Nat.beq (m.mod 2) 1 = false := by
                rw [show m.mod 2 = 0 from by have : m % 2 = 0 := by omega
                                             exact this]; rfl
              simp only [this, cond_false]
              have hmn : m ≠ n := by omega
              simp [hmn]
        · have hb1 : Nat.beq (n.mod 2) 1 = false := by
            rw [show n.mod 2 = 0 from by have : n % 2 = 0 := by omega
                                         exact this]; rfl
          simp only [hb1, cond_false, T.get]
          by_cases hm : m = 0
          · subst hm; simp [Ne.symm h0]
          · have hmb : Nat.beq m 0 = false := by cases m with | zero => exact absurd rfl hm | succ k => rfl
            simp only [hmb, cond_false]
            by_cases hmo : m % 2 = 1
            · have : Nat.beq (m.mod 2) 1 = true := by rw [show m.mod 2 = 1 from hmo]; rfl
              simp only [this, cond_true]
              have hmn : m ≠ n := by omega
              simp [hmn]
            · have : Nat.beq (m.mod 2) 1 = false := by
                rw [show m.mod 2 = 0 from by have : m % 2 = 0 := by omega
                                             exact this]; rfl
              simp only [this, cond_false]
              have e1 : n.div 2 = n / 2 := rfl
              have e2 : m.div 2 = m / 2 := rfl
              rw [ih _ _ _ _ (by rw [e1, Nat.pred_eq_sub_one]; omega)]
              rw [e1, e2, Nat.pred_eq_sub_one, Nat.pred_eq_sub_one]
              by_cases hmn : m = n
              · subst hmn; simp
              · have : m / 2 - 1 ≠ n / 2 - 1 := by omega
                simp [this, hmn, T.get]
    | node l o r =>
      simp only [T.setF]
      by_cases h0 : n = 0
      · subst h0
        simp only [Nat.beq_refl, cond_true, T.get]
        by_cases hm : m = 0
        · subst hm; simp
        · have : Nat.beq m 0 = false := by cases m with | zero => exact absurd rfl hm | succ k => rfl
          simp only [this, cond_false, if_neg hm]
      · have hb : Nat.beq n 0 = false := by cases n with | zero => exact absurd rfl h0 | succ k => rfl
        simp only [hb, cond_false]
        by_cases ho : n % 2 = 1
        · have hb1 : Nat.beq (n.mod 2) 1 = true := by rw [show n.mod 2 = 1 from ho]; rfl
          simp only [hb1, cond_true, T.get]
          by_cases hm : m = 0
          · subst hm; simp [Ne.symm h0]
          · have hmb : Nat.beq m 0 = false := by cases m with | zero => exact absurd rfl hm | succ k => rfl
            simp only [hmb, cond_false]
            by_cases hmo : m % 2 = 1
            · have : Nat.beq (m.mod 2) 1 = true := by rw [show m.mod 2 = 1 from hmo]; rfl
              simp only [this, cond_true]
              have e1 : n.div 2 = n / 2 := rfl
              have e2 : m.div 2 = m / 2 := rfl
              rw [ih _ _ _ _ (by rw [e1]; omega)]
              rw [e1, e2]
              by_cases hmn : m = n
              · subst hmn; simp
              · have : m / 2 ≠ n / 2 := by omega
                simp [this, hmn]
            · have : Nat.beq (m.mod 2) 1 = false := by
                rw [show m.mod 2 = 0 from by have : m % 2 = 0 := by omega
                                             exact this]; rfl
              simp only [this, cond_false]
              have hmn : m ≠ n := by omega
              simp [hmn]
        · have hb1 : Nat.beq (n.mod 2) 1 = false := by
            rw [show n.mod 2 = 0 from by have : n % 2 = 0 := by omega
                                         exact this]; rfl
          simp only [hb1, cond_false, T.get]
          by_cases hm : m = 0
          · subst hm; simp [Ne.symm h0]
          · have hmb : Nat.beq m 0 = false := by cases m with | zero => exact absurd rfl hm | succ k => rfl
            simp only [hmb, cond_false]
            by_cases hmo : m % 2 = 1
            · have : Nat.beq (m.mod 2) 1 = true := by rw [show m.mod 2 = 1 from hmo]; rfl
              simp only [this, cond_true]
              have hmn : m ≠ n := by omega
              simp [hmn]
            · have : Nat.beq (m.mod 2) 1 = false := by
                rw [show m.mod 2 = 0 from by have : m % 2 = 0 := by omega
                                             exact this]; rfl
              simp only [this, cond_false]
              have e1 : n.div 2 = n / 2 := rfl
              have e2 : m.div 2 = m / 2 := rfl
              rw [ih _ _ _ _ (by rw [e1, Nat.pred_eq_sub_one]; omega)]
              rw [e1, e2, Nat.pred_eq_sub_one, Nat.pred_eq_sub_one]
              by_cases hmn : m = n
              · subst hmn; simp
              · have : m / 2 - 1 ≠ n / 2 - 1 := by omega
                simp [this, hmn]

theorem T.get_set (t : T α) (n m : Nat) (v : α) : (t.set n v).get m = if m = n then some v else t.get m :=
  T.get_setF _ _ _ _ _ (Nat.lt_succ_self n)

theorem T.get_set_self (t : T α) (n : Nat) (v : α) : (t.set n v).get n = some v := by simp [T.get_set]
theorem T.get_set_ne (t : T α) {n m : Nat} (v : α) (h : m ≠ n) : (t.set n v).get m = t.get m := by simp [T.get_set, h]

theorem T.get_leaf (m : Nat) : (T.leaf : T α).get m = none := rfl

theorem T.get_ofList : ∀ (l : List α) (i : Nat) (t : T α) (m : Nat), (T.ofList l i t).get m = if i ≤ m ∧ m < i + l.length then l[m - i]? else t.get m
  | [], i, t, m => by simp [T.ofList]; intro h1 h2; omega
  | x :: xs, i, t, m => by
    simp only [T.ofList]
    rw [T.get_ofList xs (i + 1) (t.set i x) m, T.get_set]
    by_cases h : m = i
    · subst h; simp; intro h; omega
    · by_cases h2 : i + 1 ≤ m ∧ m < i + 1 + xs.length
      · rw [if_pos h2, if_pos ⟨by omega, by simp; omega⟩]
        obtain ⟨k, rfl⟩ : ∃ k, m = i + 1 + k := ⟨m - (i + 1), by omega⟩
        rw [show i + 1 + k - (i + 1) = k by omega, show i + 1 + k - i = k + 1 by omega]; rfl
      · rw [if_neg h2, if_neg h, if_neg (by simp; omega)]

end Go.AM
