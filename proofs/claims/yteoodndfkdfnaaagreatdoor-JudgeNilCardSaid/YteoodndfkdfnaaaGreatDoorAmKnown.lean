/- Functions that are known whole. -/
import Derived.Test.YteoodndfkdfnaaaGreatDoorAmRun
import Derived.Shelf.Strings.Shaped
import Derived.Shelf.Bytes.IndexByte
import Derived.Shelf.Small.Strs
namespace Go.AM

def intsOf : List Value → Option (List Int)
  | [] => some []
  | .int .u8 n :: l => match intsOf l with | some r => some (n :: r) | none => none
  | _ => none

def kContains : List Value → S → Option Value := fun l _ => match l with
  | [.string a, .string b] => bif Nat.blt a.size 4294967281 then some (.bool (Lib.contains a.data.toList b.data.toList)) else none
  | _ => none
def kIndexByte : List Value → S → Option Value := fun l s => match l with
  | [.slice (some a) n _, .int .u8 c] => match s.load a.block a.off n with
    | some l => match intsOf l with
      | some xs => some (.int .i64 (Lib.indexByte (Lib.bytesOf xs) c.toNat.toUInt8))
      | none => none
    | none => none
  | [.slice none 0 0, .int .u8 _] => some (.int .i64 (-1))
  | _ => none
def kIndexByteS : List Value → S → Option Value := fun l _ => match l with
  | [.string s, .int .u8 c] => some (.int .i64 (Lib.indexByte s.data.toList c.toNat.toUInt8))
  | _ => none
def known3 (fc fb fs : FuncId) : Known := fun f =>
  bif Nat.beq f fc then some kContains else bif Nat.beq f fb then some kIndexByte else bif Nat.beq f fs then some kIndexByteS else none

theorem intsOf_spec {ι : Inj} : ∀ {l l' : List Value} {xs : List Int}, intsOf l = some xs → VRelL ι l l' → xs.length = l.length ∧ ∀ i, i < l'.length → l'[i]? = some (.int .u8 (xs.getD i 0))
  | [], _, xs, h, r => by
    simp only [intsOf, Option.some.injEq] at h; subst h
    cases r
    exact ⟨rfl, fun i hi => by simp at hi⟩
  | v :: l, l', xs, h, r => by
    cases v with
    | int k n =>
      cases k with
      | u8 =>
        simp only [intsOf] at h
        cases hr : intsOf l with
        | none => simp [hr] at h
        | some ys =>
          simp only [hr, Option.some.injEq] at h; subst h
          cases r with
          | cons a b =>
            obtain ⟨h1, h2⟩ := intsOf_spec hr b
            have e := a.int_inv; subst e
            refine ⟨by simp [h1], fun i hi => ?_⟩
            cases i with
            | zero => rfl
            | succ i => simpa using h2 i (by simpa using hi)
      | _ => simp [intsOf] at h
    | _ => simp [intsOf] at h

/-- what the three are, from their contracts -/
theorem known3_ok {P : Program} {w0 : World} {fc fb fs : FuncId}
    (hC : ∀ (s sub : ByteArray) (w : World), w0.heap.size ≤ w.heap.size → (∀ b, b < w0.heap.size → w.heap[b]? = w0.heap[b]?) → s.size < 4294967281 →
      Calls P fc #[.string s, .string sub] w fun e w' => e = .returned (.bool (Lib.contains s.data.toList sub.data.toList)) ∧ w' = w)
    (hB : ∀ (b o n c : Nat) (xs : List Int) (cv : Int) (w : World), xs.length = n → (∀ i, i < n → w.cell? ⟨b, o + i, none⟩ = some (.int .u8 (xs.getD i 0))) →
      Calls P fb #[.slice (some ⟨b, o, none⟩) n c, .int .u8 cv] w fun e w' => e = .returned (.int .i64 (Lib.indexByte (Lib.bytesOf xs) cv.toNat.toUInt8)) ∧ w' = w)
    (hN : ∀ (cv : Int) (w : World), Calls P fb #[.slice none 0 0, .int .u8 cv] w fun e w' => e = .returned (.int .i64 (-1)) ∧ w' = w)
    (hS : ∀ (s : ByteArray) (c : Int) (w : World), Calls P fs #[.string s, .int .u8 c] w fun e w' => e = .returned (.int .i64 (Lib.indexByte s.data.toList c.toNat.toUInt8)) ∧ w' = w) :
    KnownOk P (known3 fc fb fs) w0 := by
  intro f F hk args s v hF ι w args' hsz hsame hSR hr
  have harr : args' = args'.toList.toArray := by simp
  unfold known3 at hk
  cases h1 : Nat.beq f fc with
  | true =>
    rw [h1] at hk; simp only [cond_true, Option.some.injEq] at hk; subst hk
    have := Nat.eq_of_beq_eq_true h1; subst this
    unfold kContains at hF
    split at hF
    · rename_i a b
      cases hlt : Nat.blt a.size 4294967281 with
      | false => rw [hlt] at hF; cases hF
      | true =>
        rw [hlt] at hF; simp only [cond_true, Option.some.injEq] at hF; subst hF
        generalize args'.toList = l' at hr harr
        subst harr
        cases hr with
        | cons ra rb =>
          cases rb with
          | cons rc rd =>
            cases rd
            have e1 := ra.string_inv; have e2 := rc.string_inv
            subst e1; subst e2
            exact ⟨_, .bool _, hC a b w hsz hsame (by simpa using hlt)⟩
    · cases hF
  | false =>
    rw [h1] at hk; simp only [cond_false] at hk
    cases h2 : Nat.beq f fb with
    | true =>
      rw [h2] at hk; simp only [cond_true, Option.some.injEq] at hk; subst hk
      have := Nat.eq_of_beq_eq_true h2; subst this
      unfold kIndexByte at hF
      split at hF
      · rename_i a n cap c
        cases hl : s.load a.block a.off n with
        | none => simp [hl] at hF
        | some vs =>
          simp only [hl] at hF
          cases hi : intsOf vs with
          | none => simp [hi] at hF
          | some xs =>
            simp only [hi, Option.some.injEq] at hF; subst hF
            generalize args'.toList = l' at hr harr
            subst harr
            cases hr with
            | cons ra rb =>
              cases rb with
              | cons rc rd =>
                cases rd
                have e2 := rc.int_inv; subst e2
                obtain ⟨l, off', c', hib, hnc, hcc, _, _, hoff, e1⟩ := ra.slice_inv
                subst e1
                obtain ⟨vs', r1, r2, r3⟩ := load_rel hSR hib hl
                obtain ⟨q1, q2⟩ := intsOf_spec hi r1
                refine ⟨_, .int _ _, hB l.blk off' n c' xs c w (by rw [q1, r1.length, r2]) fun i hin => ?_⟩
                have h0 : c' ≠ 0 := by omega
                rw [hoff h0]
                have := r3 i _ (q2 i (by omega))
                rw [Addr.add_none] at this
                exact this
      · rename_i c
        simp only [Option.some.injEq] at hF; subst hF
        generalize args'.toList = l' at hr harr
        subst harr
        cases hr with
        | cons ra rb =>
          cases rb with
          | cons rc rd =>
            cases rd
            have e1 := ra.nilslice_inv; have e2 := rc.int_inv
            subst e1; subst e2
            exact ⟨_, .int _ _, hN c w⟩
      · cases hF
    | false =>
      rw [h2] at hk; simp only [cond_false] at hk
      cases h3 : Nat.beq f fs with
      | false => rw [h3] at hk; cases hk
      | true =>
        rw [h3] at hk; simp only [cond_true, Option.some.injEq] at hk; subst hk
        have := Nat.eq_of_beq_eq_true h3; subst this
        unfold kIndexByteS at hF
        split at hF
        · rename_i a c
          simp only [Option.some.injEq] at hF; subst hF
          generalize args'.toList = l' at hr harr
          subst harr
          cases hr with
          | cons ra rb =>
            cases rb with
            | cons rc rd =>
              cases rd
              have e1 := ra.string_inv; have e2 := rc.int_inv
              subst e1; subst e2
              exact ⟨_, .int _ _, hS a c w⟩
        · cases hF

end Go.AM
