/- The closure of a function by a faster walk: what was seen stands in one number; the fuel is enough whatever it is. And: all of a range, chunk by chunk. -/
import GoSem.ClaimFn
namespace Go.Clo
open Go

def leads (P : Program) (f : FuncId) : List FuncId := (P.funcs[f]?).elim [] P.leadsTo

/-- the walk: fuel, what is to do, what was seen (as bits), what was seen (the last one first) -/
def go (P : Program) : Nat → List FuncId → Nat → List FuncId → Option (List FuncId)
  | 0, _, _, _ => none
  | _ + 1, [], _, acc => some acc.reverse
  | n + 1, f :: todo, m, acc => bif Nat.testBit m f then go P n todo m acc else go P n (leads P f ++ todo) (Nat.lor m (2 ^ f)) (f :: acc)

/-- what is still to be led to, of functions from i on, j of them -/
def rest (P : Program) (seen : List FuncId) : Nat → Nat
  | 0 => 0
  | i + 1 => rest P seen i + (if seen.contains i then 0 else (leads P i).length)

theorem rest_cons_le (P : Program) (seen : List FuncId) (f : FuncId) : ∀ n, rest P (f :: seen) n ≤ rest P seen n
  | 0 => Nat.le_refl _
  | i + 1 => by
    have h := rest_cons_le P seen f i
    simp only [rest, List.contains_cons]
    cases hs : seen.contains i with
    | true => simp; omega
    | false =>
      cases hf : (i == f) with
      | true => simp; omega
      | false => simp; omega
theorem rest_cons (P : Program) (seen : List FuncId) (f : FuncId) (hs : seen.contains f = false) : ∀ n, f < n → rest P (f :: seen) n + (leads P f).length ≤ rest P seen n
  | 0, h => absurd h (Nat.not_lt_zero _)
  | i + 1, h => by
    rcases Nat.lt_or_ge f i with hi | hi
    · have := rest_cons P seen f hs i hi
      simp only [rest, List.contains_cons]
      cases hsi : seen.contains i with
      | true => simp; omega
      | false =>
        cases hf : (i == f) with
        | true => simp; omega
        | false => simp; omega
    · obtain rfl : f = i := Nat.le_antisymm (Nat.le_of_lt_succ h) hi
      have := rest_cons_le P seen f f
      simp only [rest, List.contains_cons, hs]
      simp
      omega

theorem via_of_go (P : Program) : ∀ (n : Nat) (todo : List FuncId) (m : Nat) (seen L : List FuncId), go P n todo m seen = some L → (∀ i, Nat.testBit m i = seen.contains i) →
    ∀ k, todo.length + rest P seen P.funcs.size ≤ k → P.closureVia k todo seen = L
  | 0, _, _, _, _, h, _, _, _ => by cases h
  | n + 1, [], m, seen, L, h, hm, k, hk => by
    simp only [go, Option.some.injEq] at h
    cases k with
    | zero => simpa [Program.closureVia] using h
    | succ k => simpa [Program.closureVia] using h
  | n + 1, f :: todo, m, seen, L, h, hm, k, hk => by
    simp only [List.length_cons] at hk
    cases k with
    | zero => omega
    | succ k =>
      simp only [go] at h
      cases hb : Nat.testBit m f with
      | true =>
        rw [hb] at h
        have hs : seen.contains f = true := (hm f).symm.trans hb
        have := via_of_go P n todo m seen L h hm k (by omega)
        simp only [Program.closureVia, hs, if_true]
        exact this
      | false =>
        rw [hb] at h
        have hs : seen.contains f = false := (hm f).symm.trans hb
        have hle : (leads P f ++ todo).length + rest P (f :: seen) P.funcs.size ≤ k := by
          rw [List.length_append]
          rcases Nat.lt_or_ge f P.funcs.size with hlt | hge
          · have := rest_cons P seen f hs _ hlt
            omega
          · have h0 : leads P f = [] := by simp [leads, hge]
            have := rest_cons_le P seen f P.funcs.size
            rw [h0]
            simp
            omega
        have := via_of_go P n (leads P f ++ todo) (Nat.lor m (2 ^ f)) (f :: seen) L h (fun i => by
          show Nat.testBit (m ||| 2 ^ f) i = _
          rw [Nat.testBit_or, Nat.testBit_two_pow, hm i, List.contains_cons]
          by_cases e : f = i
          · subst e; simp
          · have e' : ¬ i = f := fun x => e x.symm
            simp [e, e']) k hle
        simp only [Program.closureVia, hs]
        exact this

theorem rest_le_sum (P : Program) : ∀ n, n ≤ P.funcs.size → rest P [] n ≤ ((P.funcs.toList.take n).map fun g => (P.leadsTo g).length + 1).sum
  | 0, _ => by simp [rest]
  | i + 1, h => by
    have hi : i < P.funcs.toList.length := by simp; omega
    have := rest_le_sum P i (by omega)
    have hg : P.funcs[i]? = some P.funcs.toList[i] := by simp
    rw [List.take_succ_eq_append_getElem hi, List.map_append, List.sum_append]
    simp only [rest, List.contains_nil, leads, hg, Option.elim_some, List.map_cons, List.map_nil, List.sum_cons, List.sum_nil, Bool.false_eq_true, if_false]
    omega

/-- the closure of a function, by the walk -/
theorem closure_of_go (P : Program) (f : FuncId) (n : Nat) (L : List FuncId) (h : go P n [f] 0 [] = some L) : P.closure f = L := by
  unfold Program.closure
  refine via_of_go P n [f] 0 [] L h (fun i => by simp) _ ?_
  have := rest_le_sum P P.funcs.size (Nat.le_refl _)
  rw [List.take_of_length_le (by simp)] at this
  simp only [List.length_cons, List.length_nil]
  omega

/-- all of a range, chunk by chunk -/
theorem all_of_chunks (p : Nat → Bool) (k m n : Nat) (hk : 0 < k) (hn : n ≤ m * k) (h : ∀ j, j < m → ((List.range k).all fun i => p (j * k + i)) = true) : (List.range n).all p = true := by
  rw [List.all_eq_true]
  intro x hx
  have hx' := List.mem_range.1 hx
  have hj : x / k < m := by
    rw [Nat.div_lt_iff_lt_mul hk]
    omega
  have := List.all_eq_true.1 (h (x / k) hj) (x % k) (List.mem_range.2 (Nat.mod_lt _ hk))
  rwa [Nat.mul_comm, Nat.div_add_mod] at this
end Go.Clo
